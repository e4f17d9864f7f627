/- A part of the proof of the statement that the last text of this claim proves; no condition is added. Packed by a program of the prover. -/
import Derived.Test.YtaiplainginmaaaGreatQ3
namespace Go.Proofs.YtaiplainginmaaaGreat.Pv
open Go
theorem Vz {vs : Array Value} (h : 2 = vs.size) : ∃ u v, vs = #[u, v] := by
 match vs, h with
 | ⟨[u, v]⟩, _ => exact ⟨u, v, rfl⟩
theorem ZeP {C : Ctx} {S : Store} {w : World} {v : Value} (h : Rel C S w (.sc (.slice none 0 0)) v) : v = .slice none 0 0 := by cases h; rfl
theorem ZeQ (n : Nat) (h0 : 0 < n) (hn : n ≤ 1048576) (S : Store) (nx : Nat) (hd : zK nx S) :
  Spec Tryz.prog 277 [.sc (.slice none 0 0), I n] S (fun p S' => ∃ v, p = .sl nx v 2 0 0 ∧ S' = S.set nx (.cells v 50 [])) := by
 refine ⟨yL Tryz.func277 (by rfl) rfl, ?_⟩
 intro C w vs hS hl hr
 obtain ⟨u, v, rfl⟩ := Vz hl
 obtain rfl := ZeP (hr 0 _ u rfl rfl)
 obtain rfl := vY (hr 1 _ v rfl rfl)
 obtain ⟨i0, hi0⟩ := Option.isSome_iff_exists.1 i50
 have hz := z50
 have hc := c50
 have hb := b50
 simp only [Program.zeroOf, Program.cellsOf, Program.bytesOf', hi0, Option.bind_some, Option.map_some, Option.getD_some, Option.some.injEq] at hz hc hb
 refine (Tryz.slices_Grow_stop i0 _ hi0 hz (by omega) n w h0 (by rw [hb]; omega) (by omega)).mono ?_
 rintro e w' ⟨rfl, rfl⟩
 have hfr : Fresh C S nx C.clock := .clock C (hd nx (Nat.le_refl _))
 obtain ⟨d1, d2⟩ := hS.drew
 obtain ⟨t1, t2⟩ := d1.object' hfr 50 ((#[] : Array Value) ++ Builtin.zeroCells (Value.agg #[.int .i64 0, .int .i64 0]).cells (0 + n - 0) ++ Builtin.zeroCells (Value.agg #[.int .i64 0, .int .i64 0]).cells (grownCap w (0 + n) 0 50 - (0 + n))) [] (by simp) (fun i v hi => by simp at hi) (fun i p v hp => by simp at hp)
 have hge := grownCap_ge w (0 + n) 0 50
 simp only [Nat.zero_add] at hge
 refine ⟨_, _, _, _, rfl, ⟨C.clock, rfl, rfl⟩, Zn C S w _ _ _ _ _ _ _ _ rfl (Nat.zero_le _) (Nat.zero_le _) (grownCap_le_maxLen w _ _ _ (by unfold maxLen; omega)) ?_, t1, d2.trans t2⟩
 simp only [Array.size_append, size_zeroCells]
 simp [Value.cells]
 omega
set_option maxRecDepth 20000 in
theorem ZeR (ls : List (List Stop)) (hls : ls.length ≤ 1048576) (h0 : 0 < ls.flatten.length) (hn : ls.flatten.length ≤ 1048576) : Pure Tryz.prog 265 [L ls] (L ls.flatten) := by
 refine pwe Tryz.func265 Tryz.ntmps265 Tryz.results265 fun S nx hd => ?_
 (repeat apply za); refine pwn ?_; intros
 (repeat apply za); refine pwn ?_; intros
 (repeat apply za); refine pwn ?_; intros
 repeat apply za
 refine ze (zq (fun s : Nat × Nat => s.1 ≤ ls.length ∧ s.2 = (ls.take s.1).flatten.length) (fun (k, n) => [(0, L ls), (3, I (n : Int)), (9, L ls), (10, I ls.length), (11, I k)]) (fun _ => []) (fun s => ls.length - s.1) (0, 0) [] ⟨by simp, by simp⟩ (by simp) (by simp) ?_)
 rintro ⟨k, n⟩ ⟨hk, ho⟩
 simp only at hk ho ⊢
 (repeat apply za); refine pwn ?_; intros
 repeat apply za
 refine zl rfl (fun hc => ?_) (fun hc => ?_)
 ·simp at hc
  obtain ⟨t, tl, a1, a2, a3, e0⟩ := el1 rfl ls k hc
  have hs1 : (ls.take (k + 1)).flatten.length = n + t.length := by rw [a3, ho]; simp
  have hs2 : (ls.take (k + 1)).flatten.length ≤ ls.flatten.length := by
   conv => rhs; rw [← List.take_append_drop (k + 1) ls, List.flatten_append, List.length_append]
   omega
  have w1 : IntKind.i64.wrap ((n : Int) + (t.length : Nat)) = (n : Int) + (t.length : Nat) := wr _ (by omega) (by omega)
  have w2 : ¬ ((n : Int) + (t.length : Nat) < 0) := by omega
  refine zd (za (ze ?_))
  repeat apply za
  refine pwN [] (jn2 e0 hc) ?_
  intros
  repeat apply za
  refine pwN [] w1 ?_
  intros
  repeat apply za
  refine pwN [] w2 ?_
  intros
  repeat apply za
  refine zj rfl ?_
  refine zd ?_
  (repeat apply za); refine pwn ?_; intros
  exact zk (k + 1, n + t.length) [] ⟨hc, hs1.symm⟩ (by simp; omega) (by simp [wrN k (by omega)]) rfl (by simp)
 ·simp at hc
  obtain rfl : k = ls.length := by omega
  rw [List.take_length] at ho
  rw [← ho] at h0
  have hn' : n ≤ 1048576 := by omega
  clear ho
  refine zm ?_
  repeat apply za
  refine zN [] (by rfl) (by rfl) fun K Gc Gh hK hGc hGh X hX0 hX => ?_
  simp -implicitDefEqProofs [hX0, hX]
  try clear hX0 hX X
  refine hGc _ _ _ _ _ _ _ fun hsuf => ((ZeQ n h0 hn' _ _ jF).mono ?_).v
  rintro _ _ ⟨v1, rfl, rfl⟩
  refine ⟨_, _, qj _, ?_⟩
  clear hGc hGh
  clear Gc Gh
  refine zI hsuf (D := []) (by rfl) fun Gc Gh hGc hGh X hX0 hX => ?_
  simp -implicitDefEqProofs [hX0, hX]
  clear hX0 hX X
  intros
  refine hK _ _ _ ?_
  clear hK hGc hGh
  clear K Gc Gh
  (repeat apply za); refine pwn ?_; intros
  repeat apply za
  refine ze (zq (fun s : Nat × List Stop × Nat => s.1 ≤ ls.length ∧ s.2.1 = (ls.take s.1).flatten) (fun (k, out, v) => [(6, .sl nx v 2 0 out.length), (25, L ls), (26, I ls.length), (27, I k)]) (fun (k, out, v) => [.cells v 50 (out.flatMap Enc.enc)]) (fun s => ls.length - s.1) (0, [], v1) [] ⟨by simp, by simp⟩ (by simp) (by simp) ?_)
  rintro ⟨k, out, v⟩ ⟨hk, ho⟩
  simp only at hk ho ⊢
  (repeat apply za); refine pwn ?_; intros
  repeat apply za
  refine zl rfl (fun hc => ?_) (fun hc => ?_)
  ·simp at hc
   obtain ⟨t, tl, a1, a2, a3, e0⟩ := el1 rfl ls k hc
   have hs1 : (ls.take (k + 1)).flatten = out ++ t := by rw [a3, ho]; simp
   have hs2 : (ls.take (k + 1)).flatten.length ≤ ls.flatten.length := by
    conv => rhs; rw [← List.take_append_drop (k + 1) ls, List.flatten_append, List.length_append]
    omega
   rw [hs1] at hs2
   simp only [List.length_append] at hs2
   refine zd (za (ze ?_))
   repeat apply za
   refine pwN [] (jn2 e0 hc) ?_
   intros
   repeat apply za
   refine pwn ?_
   refine ⟨by omega, ?_⟩
   intros
   (repeat apply za); refine pwn ?_; intros
   exact zk (k + 1, out ++ t, v + 1) [] ⟨hc, hs1.symm⟩ (by simp; omega) (by simp [wrN k (by omega)]) rfl (by simp)
  ·simp at hc
   obtain rfl : k = ls.length := by omega
   rw [List.take_length] at ho
   refine zm ?_
   refine zC 0 rfl ?_
   (repeat apply za); refine pwn ?_; intros
   repeat apply za
   exact zb (zg hd (by simp; rfl) (by simp [zi, ho]))
open Go Hp
def xp (T : Day) (c : Int) : Nat := T.findIdx fun t => t.any fun s => decide (s.c = c)
def wI (a : zo) : Option Int := a[a.length - 1]?.map (·.c)
def vk (b : zo) : Option Int := b[0]?.map (·.c)
def yh (x : Inst) (num : Int) (p : Pr) (i k : Nat) (a b : zo) : Bool :=
 decide (i ≠ k) && decide (wI a = some p.a) && decide (vk b = some p.b) && !(decide (p.s ≤ 0) && decide (num ≤ x.veh)) && decide (zr x (a ++ b) = 0)
def uP (x : Inst) (st : Day × Int) (p : Pr) (i k : Nat) : Day × Int :=
 bif yh x st.2 p i k (st.1.getD i []) (st.1.getD k []) then ((st.1.set i (st.1.getD i [] ++ st.1.getD k [])).set k [], st.2 - 1) else st
def yE (x : Inst) (st : Day × Int) (p : Pr) : Day × Int := uP x st p (xp st.1 p.a) (xp st.1 p.b)
def JF (x : Inst) (ss : List Stop) : Day × Int := (yG x (ss.map (·.c))).foldl (yE x) (ss.map fun s => [s], (ss.length : Int))
def ji (x : Inst) (ss : List Stop) : Day := (JF x ss).1.filter fun t => !t.isEmpty
structure JI (ss : List Stop) (T : Day) (g : Int → Option Int) : Prop where
 len : T.length = ss.length
 perm : T.flatten.Perm ss
 g : ∀ (i : Nat) t s, T[i]? = some t → s ∈ t → g s.c = some (i : Int)
theorem JI.place {ss : List Stop} {T : Day} {g : Int → Option Int} (h : JI ss T g) {i : Nat} {t : zo} {s : Stop} (hi : T[i]? = some t) (hs : s ∈ t) : xp T s.c = i := by
 have hex : ∃ t ∈ T, (t.any fun s' => decide (s'.c = s.c)) = true := ⟨t, List.mem_of_getElem? hi, List.any_eq_true.2 ⟨s, hs, by simp⟩⟩
 have hlt : xp T s.c < T.length := List.findIdx_lt_length_of_exists hex
 have hq := List.findIdx_getElem (w := hlt)
 obtain ⟨s', h1, h2⟩ := List.any_eq_true.1 hq
 have h2' : s'.c = s.c := by simpa using h2
 have e1 := h.g (xp T s.c) _ s' (List.getElem?_eq_getElem hlt) h1
 have e2 := h.g i t s hi hs
 rw [h2', e2] at e1
 have := Option.some.inj e1
 omega
theorem JI.there {ss : List Stop} {T : Day} {g : Int → Option Int} (h : JI ss T g) {c : Int} (hc : c ∈ ss.map (·.c)) : ∃ (i : Nat) (t : zo) (s : Stop), T[i]? = some t ∧ s ∈ t ∧ s.c = c ∧ g c = some (i : Int) ∧ xp T c = i := by
 obtain ⟨s, hs, rfl⟩ := List.mem_map.1 hc
 obtain ⟨t, ht, hst⟩ := List.mem_flatten.1 (h.perm.symm.subset hs)
 obtain ⟨i, hi⟩ := List.mem_iff_getElem?.1 ht
 exact ⟨i, t, s, hi, hst, rfl, h.g i t s hi hst, h.place hi hst⟩
theorem ZL {T : Day} : ∀ {i : Nat} {a : zo}, T[i]? = some a → T.flatten.Perm (a ++ (T.set i []).flatten) := by
 induction T with
 | nil => intro i a h; simp at h
 | cons t T ih =>
  intro i a h
  cases i with
  | zero => simp at h; subst h; simp
  | succ i =>
   simp only [List.getElem?_cons_succ] at h
   simp only [List.flatten_cons, List.set_cons_succ]
   refine ((ih h).append_left t).trans ?_
   rw [← List.append_assoc, ← List.append_assoc]
   exact List.perm_append_comm.append_right _
theorem ZeS {T : Day} {i : Nat} (b : zo) (h : i < T.length) : (T.set i b).flatten.Perm (b ++ (T.set i []).flatten) := by
 have := ZL (T := T.set i b) (i := i) (a := b) (by simp [h])
 rwa [List.set_set] at this
theorem ZeT {T : Day} {i k : Nat} {a b : zo} (hi : T[i]? = some a) (hk : T[k]? = some b) (hne : i ≠ k) : ((T.set i (a ++ b)).set k []).flatten.Perm T.flatten := by
 have hil := (List.getElem?_eq_some_iff.1 hi).1
 rw [List.set_comm _ _ hne]
 have h1 := ZeS (T := T.set k []) (i := i) (a ++ b) (by simpa using hil)
 have h2 := ZL hk
 have h3 := ZL (T := T.set k []) (i := i) (a := a) (by rw [List.getElem?_set_ne (fun e => hne e.symm)]; exact hi)
 refine h1.trans (List.Perm.symm ?_)
 refine h2.trans ((h3.append_left b).trans ?_)
 rw [← List.append_assoc]
 exact List.perm_append_comm.append_right _
def gTo (g : Int → Option Int) (b : zo) (i : Nat) (j : Nat) : Int → Option Int := fun c => if c ∈ (b.take j).map (·.c) then some (i : Int) else g c
theorem ZeU (g : Int → Option Int) (b : zo) (i : Nat) : gTo g b i 0 = g := by funext c; simp [gTo]
theorem ZeV {g : Int → Option Int} {b : zo} {i j : Nat} {s : Stop} (h : b.take (j + 1) = b.take j ++ [s]) : yD (gTo g b i j) s.c (some (i : Int)) = gTo g b i (j + 1) := by
 funext c
 simp only [yD, gTo, h, List.map_append, List.mem_append, List.map_cons, List.map_nil, List.mem_singleton]
 by_cases e : c = s.c
 ·simp [e]
 ·simp [e]
theorem JI.join {ss : List Stop} {T : Day} {g : Int → Option Int} (h : JI ss T g) {i k : Nat} {a b : zo} (hi : T[i]? = some a) (hk : T[k]? = some b) (hne : i ≠ k) : JI ss ((T.set i (a ++ b)).set k []) (gTo g b i b.length) := by
 have hil := (List.getElem?_eq_some_iff.1 hi).1
 have hkl := (List.getElem?_eq_some_iff.1 hk).1
 refine ⟨by simp [h.len], (ZeT hi hk hne).trans h.perm, fun i' t s ht hs => ?_⟩
 unfold gTo
 rw [List.take_length]
 by_cases e1 : k = i'
 ·subst e1
  rw [List.getElem?_set_self (by simpa using hkl)] at ht
  cases ht; cases hs
 ·rw [List.getElem?_set_ne e1] at ht
  by_cases e2 : i = i'
  ·subst e2
   rw [List.getElem?_set_self hil] at ht
   cases ht
   by_cases e3 : s.c ∈ b.map (·.c)
   ·rw [if_pos e3]
   ·rw [if_neg e3]
    rcases List.mem_append.1 hs with hs | hs
    ·exact h.g i a s hi hs
    ·exact absurd (List.mem_map.2 ⟨s, hs, rfl⟩) e3
  ·rw [List.getElem?_set_ne e2] at ht
   have h1 := h.g i' t s ht hs
   rw [if_neg]
   ·exact h1
   ·intro e3
    obtain ⟨s', hs', e4⟩ := List.mem_map.1 e3
    have h2 := h.g k b s' hk hs'
    rw [e4, h1] at h2
    have := Option.some.inj h2
    exact e1 (by omega)
theorem JI.nil : JI [] [] (fun _ => none) := ⟨rfl, .refl _, fun i t s h => by simp at h⟩
theorem JI.snoc {ss : List Stop} {T : Day} {g : Int → Option Int} (h : JI ss T g) (s : Stop) (hs : s.c ∉ ss.map (·.c)) : JI (ss ++ [s]) (T ++ [[s]]) (yD g s.c (some (ss.length : Int))) := by
 refine ⟨by simp [h.len], by simpa using h.perm.append_right [s], fun i t s' ht hst => ?_⟩
 unfold yD
 rcases Nat.lt_or_ge i T.length with hl | hl
 ·rw [List.getElem?_append_left hl] at ht
  have h1 : s' ∈ ss := h.perm.subset (List.mem_flatten.2 ⟨t, List.mem_of_getElem? ht, hst⟩)
  rw [if_neg]
  ·exact h.g i t s' ht hst
  ·intro e; exact hs (e ▸ List.mem_map.2 ⟨s', h1, rfl⟩)
 ·rw [List.getElem?_append_right hl] at ht
  have hi : i - T.length = 0 := by
   have := (List.getElem?_eq_some_iff.1 ht).1
   simp at this; omega
  rw [hi] at ht
  simp at ht
  subst ht
  simp at hst
  subst hst
  rw [if_pos rfl, ← h.len]
  congr 1
  have : i = T.length := by omega
  rw [this]
open Go Hp
theorem YV {P : Program} {r : Rd} {n N : Nat} {Q : Exit → (Nat → PV) → Store → Prop} {F : Nat → PV} {c : Code} {T : Store} {o ver e0 : Nat} {cs : List PV} (i : Nat) (hs : T o = .cells ver e0 cs) (hi : cs[i]? = some (.sc (.slice none 0 0)))
  (h : PW P r n N c Q F (T.set o (.cells ver e0 (cs.set i (.lst 0 []))))) : PW P r n N c Q F T := by
 refine wC (F' := F) (S' := T.set o (.cells ver e0 (cs.set i (.lst 0 [])))) (fun C w a st => ?_) h
 have := st.sim.relabel (cs' := cs.set i (.lst 0 [])) hs (by simp) (by
  intro k p' hp'
  rw [List.getElem?_set] at hp'
  split at hp'
  ·rename_i hij
   subst hij
   split at hp'
   ·cases hp'
    refine .inr ⟨_, hi, fun v hv => ?_⟩
    cases hv
    exact .lst0
   ·cases hp'
  ·exact .inl hp')
 exact ⟨C, ⟨this.1, st.size, fun k => (st.fr k).mono this.2, r.keep this.2 st.v⟩, this.2⟩
abbrev uQ (x : Inst) (tid tv n : Nat) (num : Int) (mid mv : Nat) : List PV := [I x.days, I x.veh, I x.cap, I x.len, L x.cust, L x.dist, .sl tid tv 1 0 n, I num, .mp mid mv]
theorem JG (cs : List PV) (k : Nat) (x : PV) (h : k < cs.length) : zJ cs k [x] = cs.set k x := by
 rw [zJ, List.set_eq_take_append_cons_drop, if_pos h]; simp
theorem VA (T : Day) : T.flatMap Enc.enc = T.map fun t => L t := by induction T <;> simp_all
theorem yQ {S : Store} {nx id : Nat} {o : Ob} (hd : zK nx S) (h : S id = o) (hne : o ≠ .dead) : id < nx := by
 rcases Nat.lt_or_ge id nx with q | q
 ·exact q
 ·rw [hd id q] at h; exact absurd h.symm hne
set_option maxRecDepth 20000 in
set_option maxHeartbeats 1600000 in
theorem ZeW (x : Inst) (ss : List Stop) (T : Day) (g : Int → Option Int) (num : Int) (es : List (Value × PV)) {S : Store} {jid jv tid tv mid mv : Nat} (hx : x.cust.length ≤ 1048576) (hss : ss.length ≤ 1000) (hnum : -1048576 ≤ num ∧ num ≤ 1048576) (hI : JI ss T g) (hm : MapIs yu I es g)
  (hj : S jid = .cells jv 290 (uQ x tid tv ss.length num mid mv)) (ht : S tid = .cells tv 46 (T.flatMap Enc.enc)) (hmid : S mid = .map mv es) (d1 : jid ≠ tid) (d2 : jid ≠ mid) (d3 : tid ≠ mid)
  (p : Pr) (hpa : p.a ∈ ss.map (·.c)) (hpb : p.b ∈ ss.map (·.c)) :
  Spec Tryz.prog 246 [.ptr jid jv 0, .agg [I p.a, I p.b, I p.s]] S (fun _ S' => ∃ es' g', MapIs yu I es' g' ∧ JI ss (yE x (T, num) p).1 g' ∧
   S' = ((S.set jid (.cells jv 290 (uQ x tid tv ss.length (yE x (T, num) p).2 mid mv))).set tid (.cells tv 46 ((yE x (T, num) p).1.flatMap Enc.enc))).set mid (.map mv es')) := by
 obtain ⟨i, a, sa, hia, hsa, hsac, hga, hpi⟩ := hI.there hpa
 obtain ⟨k, b, sb, hkb, hsb, hsbc, hgb, hpk⟩ := hI.there hpb
 have hkey : KeyOk (.int .i64) yu := vZ .i64
 obtain ⟨ra, fa1, fa2, fa3, fa4, fa5⟩ := hm.find hkey p.a
 obtain ⟨rb, fb1, fb2, fb3, fb4, fb5⟩ := hm.find hkey p.b
 obtain ⟨ja, rfl⟩ := fa3 _ hga
 obtain ⟨jb, rfl⟩ := fb3 _ hgb
 refine jg Tryz.func246 Tryz.ntmps246 Tryz.results246 fun nx hd => ?_
 have hlj : jid < nx := yQ hd hj (by simp)
 have hlt : tid < nx := yQ hd ht (by simp)
 have hlm : mid < nx := yQ hd hmid (by simp)
 have xj := fun obs => zy (S := S) (obs := obs) hlj
 have xt := fun obs => zy (S := S) (obs := obs) hlt
 have xm := fun obs => zy (S := S) (obs := obs) hlm
 repeat apply za
 refine pwn ?_
 intro v0
 have hil := (List.getElem?_eq_some_iff.1 hia).1
 have hkl := (List.getElem?_eq_some_iff.1 hkb).1
 have hgi : T.getD i [] = a := by rw [List.getD_eq_getElem?_getD, hia]; rfl
 have hgk : T.getD k [] = b := by rw [List.getD_eq_getElem?_getD, hkb]; rfl
 have hdef : yE x (T, num) p = bif yh x num p i k a b then ((T.set i (a ++ b)).set k [], num - 1) else (T, num) := by
  unfold yE uP
  simp only [hpi, hpk, hgi, hgk]
 have hstay : yh x num p i k a b = false → ∃ es' g', MapIs yu I es' g' ∧ JI ss (yE x (T, num) p).1 g' ∧
   S = ((S.set jid (.cells jv 290 (uQ x tid tv ss.length (yE x (T, num) p).2 mid mv))).set tid (.cells tv 46 ((yE x (T, num) p).1.flatMap Enc.enc))).set mid (.map mv es') := by
  intro hc
  rw [hdef, hc]
  refine ⟨es, g, hm, hI, ?_⟩
  simp only [cond_false]
  rw [uL S jid _ hj, uL S tid _ ht, uL S mid _ hmid]
 have hal2 : a.length ≤ 1000 := by
  have h1 := (ZL hia).length_eq
  have h2 := hI.perm.length_eq
  rw [List.length_append] at h1
  omega
 have hbl2 : b.length ≤ 1000 := by
  have h1 := (ZL hkb).length_eq
  have h2 := hI.perm.length_eq
  rw [List.length_append] at h1
  omega
 obtain ⟨m, hal⟩ : ∃ m, a.length = m + 1 := ⟨a.length - 1, by cases a with | nil => cases hsa | cons _ _ => simp⟩
 have hb0 : 0 < b.length := by cases b with | nil => cases hsb | cons _ _ => simp
 obtain ⟨la, tla, la1, la2, la3, la4, la5⟩ := el 2 rfl a m (by omega)
 obtain ⟨fb, b', hbc⟩ : ∃ fb b', b = fb :: b' := by cases b with | nil => cases hsb | cons x y => exact ⟨x, y, rfl⟩
 have hend : wI a = some la.c := by unfold wI; rw [hal, Nat.add_sub_cancel, la1]; rfl
 have hhead : vk b = some fb.c := by rw [hbc]; rfl
 obtain ⟨ai, tai, i1, i2, i3, i0⟩ := el1 rfl T i hil
 rw [hia] at i1; cases i1
 obtain ⟨bk, tbk, k1, k2, k3, k0⟩ := el1 rfl T k hkl
 rw [hkb] at k1; cases k1
 have hTl := hI.len
 have hil2 : i < ss.length := by omega
 have hkl2 : k < ss.length := by omega
 repeat apply za
 refine zR (nx := nx) (σ := Unit) (fun _ => True) (fun _ => [(0, .ptr jid jv 0), (3, .ptr nx v0 0), (4, I i), (5, I k)]) (fun _ => S) (fun _ => [.cells v0 185 [I p.a, I p.b, I p.s]]) ?_ ?_
 ·repeat apply za
  refine xV none (Row.pures [0, 1, 2, 3, 4, 5, 7, 8, 9, 10, 11, 12] (.alt 6 (Row.pures [14] (.alt 13 (Row.pures [15] .done) .stop)) (.alt 13 (.alt 6 (Row.pures [14, 15] .done) .stop) .stop))) mixed (by rfl) (by rfl) (by rfl) fun K Gp Gc Gh hK hGp hGc hGh X hX0 hX1 hX2 hX => ?_
  simp -implicitDefEqProofs [hX0, hX1, hX2, hX, xj, xt, xm, hj, ht, hmid]
  try clear hX0 hX1 hX2 hX X
  refine ⟨?_, ?_⟩
  ·refine hGh _ _ _ _ _ (by rfl) (uE rfl Tryz.underlying288 Tryz.underlying3 rfl rfl rfl ((xm _).trans hmid) fa1 z3 ?_)
   refine ⟨by simp [yf], ?_⟩
   clear hGp hGc hGh
   clear Gp Gc Gh
   refine ju fun Gp Gc Gh hGp hGc hGh X hX0 hX1 hX2 hX => ?_
   simp -implicitDefEqProofs [hX0, hX1, hX2, hX]
   try clear hX0 hX1 hX2 hX X
   refine hGh _ _ _ _ _ (by rfl) (uE rfl Tryz.underlying288 Tryz.underlying3 rfl rfl rfl ((xm _).trans hmid) fb1 z3 ?_)
   refine ⟨by simp [yf], ?_⟩
   clear hGp hGc hGh
   clear Gp Gc Gh
   refine ju fun Gp Gc Gh hGp hGc hGh X hX0 hX1 hX2 hX => ?_
   simp -implicitDefEqProofs [hX0, hX1, hX2, hX]
   try clear hX0 hX1 hX2 hX X
   refine hK _ _ _ ?_
   clear hK hGp hGc hGh
   clear K Gp Gc Gh
   exact zt () [] trivial (by simp [Zp]) rfl (by simp)
  ·refine hGh _ _ _ _ _ (by rfl) (uE rfl Tryz.underlying288 Tryz.underlying3 rfl rfl rfl ((xm _).trans hmid) fb1 z3 ?_)
   refine ⟨by simp [yf], ?_⟩
   clear hGp hGc hGh
   clear Gp Gc Gh
   refine ju fun Gp Gc Gh hGp hGc hGh X hX0 hX1 hX2 hX => ?_
   simp -implicitDefEqProofs [hX0, hX1, hX2, hX]
   try clear hX0 hX1 hX2 hX X
   refine hGh _ _ _ _ _ (by rfl) (uE rfl Tryz.underlying288 Tryz.underlying3 rfl rfl rfl ((xm _).trans hmid) fa1 z3 ?_)
   refine ⟨by simp [yf], ?_⟩
   clear hGp hGc hGh
   clear Gp Gc Gh
   refine ju fun Gp Gc Gh hGp hGc hGh X hX0 hX1 hX2 hX => ?_
   simp -implicitDefEqProofs [hX0, hX1, hX2, hX]
   try clear hX0 hX1 hX2 hX X
   refine hK _ _ _ ?_
   clear hK hGp hGc hGh
   clear K Gp Gc Gh
   exact zt () [] trivial (by simp [Zp]) rfl (by simp)
 intro _ _
 repeat apply za
 refine pwY none (Row.pures [0, 1, 2, 3, 4, 5, 6, 7, 8, 9, 10, 11, 12, 13, 14, 15] .done) mixed (jn6 xj xt hj ht i0 (jn4 k0 hil2 hkl2 hTl)) ?_
 intros
 have wm : IntKind.i64.wrap (m : Int) = m := wr _ (by omega) (by omega)
 have hm1 : m < a.length := by omega
 refine za ?_
 refine zR (nx := nx) (σ := Unit) (fun _ => ¬ i = k ∧ la.c = p.a ∧ fb.c = p.b) (fun _ => [(0, .ptr jid jv 0), (3, .ptr nx v0 0), (4, I i), (5, I k), (6, L a), (7, L b)]) (fun _ => S) (fun _ => [.cells v0 185 [I p.a, I p.b, I p.s]]) ?_ ?_
 ·by_cases h1 : i = k
  ·have hc : yh x num p i k a b = false := by simp [yh, h1]
   repeat apply za
   refine pwY none (Row.pures [0, 1, 2, 3, 4, 5, 6, 7, 8, 9, 10, 11, 12, 13, 14, 15, 16, 17, 18, 19, 20, 21, 22, 23] .done) mixed (jn2 h1 zn) ?_
   intros
   repeat apply za
   refine zh rfl ?_
   repeat apply za
   exact zb ⟨_, S, rfl, hstay hc, zL hd⟩
  have h1' : ¬ (i : Int) = (k : Int) := by omega
  have hm2 : (m : Int) < (m : Int) + 1 := by omega
  by_cases h2 : la.c = p.a
  case neg =>
   have hc : yh x num p i k a b = false := by simp [yh, hend, h2]
   repeat apply za
   refine pwY none (Row.pures [0, 1, 2, 3, 4, 5, 6, 7, 8, 9, 10, 11, 12, 13, 14, 15, 16, 17, 18, 19, 20, 21, 22, 23] .done) mixed (jn6 h1' h2 hal wm hm2 (jn3 la4 la5 zn)) ?_
   intros
   repeat apply za
   refine zh rfl ?_
   repeat apply za
   exact zb ⟨_, S, rfl, hstay hc, zL hd⟩
  by_cases h3 : fb.c = p.b
  case neg =>
   have hc : yh x num p i k a b = false := by simp [yh, hhead, h3]
   repeat apply za
   refine pwY none (Row.pures [0, 1, 2, 3, 4, 5, 6, 7, 8, 9, 10, 11, 12, 13, 14, 15, 16, 17, 18, 19, 20, 21, 22, 23] .done) mixed (jn6 h1' h2 h3 hal wm (jn5 hm2 la4 la5 hbc zn)) ?_
   intros
   repeat apply za
   refine zh rfl ?_
   repeat apply za
   exact zb ⟨_, S, rfl, hstay hc, zL hd⟩
  repeat apply za
  refine pwY none (Row.pures [0, 1, 2, 3, 4, 5, 6, 7, 8, 9, 10, 11, 12, 13, 14, 15, 16, 17, 18, 19, 20, 21, 22, 23] .done) mixed (jn6 h1' h2 h3 hal wm (jn5 hm2 la4 la5 hbc zn)) ?_
  intros
  repeat apply za
  refine zj rfl ?_
  refine zd ?_
  exact zt () [] ⟨h1, h2, h3⟩ (by simp [hal, hbc]) rfl (by simp)
 rintro _ ⟨h1, h2, h3⟩
 have hN0 : -9223372036854775808 ≤ num := by omega
 refine za ?_
 refine zR (nx := nx) (σ := Unit) (fun _ => ¬ (p.s ≤ 0 ∧ num ≤ x.veh)) (fun _ => [(0, .ptr jid jv 0), (3, .ptr nx v0 0), (4, I i), (5, I k), (6, L a), (7, L b)]) (fun _ => S) (fun _ => [.cells v0 185 [I p.a, I p.b, I p.s]]) ?_ ?_
 ·by_cases h4 : p.s ≤ 0
  ·by_cases h5 : num ≤ x.veh
   ·have hc : yh x num p i k a b = false := by simp [yh, h4, h5]
    repeat apply za
    refine pwY none (Row.pures [0, 1, 2, 3, 4, 5, 6, 7, 8, 9, 10, 11, 12, 13, 14] .done) mixed (jn5 xj hj h4 h5 zn) ?_
    intros
    repeat apply za
    refine zh rfl ?_
    repeat apply za
    exact zb ⟨_, S, rfl, hstay hc, zL hd⟩
   ·repeat apply za
    refine pwY none (Row.pures [0, 1, 2, 3, 4, 5, 6, 7, 8, 9, 10, 11, 12, 13, 14] .done) mixed (jn5 xj hj h4 h5 zn) ?_
    intros
    repeat apply za
    refine zj rfl ?_
    refine zd ?_
    exact zt () [] (by simp [h5]) (by simp) rfl (by simp)
  ·repeat apply za
   refine pwY none (Row.pures [0, 1, 2, 3, 4, 5, 6, 7, 8, 9, 10, 11, 12, 13, 14] .done) mixed (jn2 h4 zn) ?_
   intros
   repeat apply za
   refine zj rfl ?_
   refine zd ?_
   exact zt () [] (by simp [h4]) (by simp) rfl (by simp)
 intro _ h4
 have hcon := ZeR [a, b] (by simp) (by simp; omega) (by simp; omega)
 rw [show [a, b].flatten = a ++ b from by simp] at hcon
 repeat apply za
 refine pwn ?_
 refine pwc hcon ?_
 intros
 refine za ?_
 refine zR (nx := nx) (σ := Unit) (fun _ => zr x (a ++ b) = 0) (fun _ => [(0, .ptr jid jv 0), (3, .ptr nx v0 0), (4, I i), (5, I k), (6, L a), (7, L b), (8, L (a ++ b))]) (fun _ => S) (fun _ => [.cells v0 185 [I p.a, I p.b, I p.s]]) ?_ ?_
 ·repeat apply za
  refine pwN [] (jn2 xj hj) ?_
  refine pwc (ZG x (a ++ b) hx (by simp; omega)) ?_
  intros
  by_cases h5 : zr x (a ++ b) = 0
  ·repeat apply za
   refine zj (by simp [h5]) ?_
   refine zd ?_
   exact zt () [] h5 (by simp) rfl (by simp)
  ·have hc : yh x num p i k a b = false := by simp [yh, h5]
   repeat apply za
   refine zh (by simp [h5]) ?_
   repeat apply za
   exact zb ⟨_, S, rfl, hstay hc, zL hd⟩
 intro _ h5
 have h4' : (decide (p.s ≤ 0) && decide (num ≤ x.veh)) = false := Bool.eq_false_iff.2 fun q => h4 (by simpa using q)
 have hjoin : yh x num p i k a b = true := by unfold yh; rw [h4', hend, hhead, h2, h3, h5]; simp [h1]
 rw [hdef, hjoin]
 simp only [cond_true]
 have yj := fun (o : Ob) obs => (zy (S := S.set mid o) (obs := obs) hlj).trans ((Store.set_other _ _ _ _ d2).trans hj)
 have ym := fun (o : Ob) obs => (zy (S := S.set mid o) (obs := obs) hlm).trans (Store.set_same _ _ _)
 (repeat apply za); refine pwn ?_; intros
 repeat apply za
 refine ze (qV (σ := Nat × List (Value × PV)) (fun s => s.1 ≤ b.length ∧ MapIs yu I s.2 (gTo g b i s.1)) (fun s => [(0, .ptr jid jv 0), (4, I i), (5, I k), (8, L (a ++ b)), (90, L b), (91, I b.length), (92, I s.1)]) (fun s => S.set mid (.map mv s.2)) (fun _ => [.cells v0 185 [I p.a, I p.b, I p.s]]) (fun s => b.length - s.1) (zt (0, es) [] ⟨by simp, by rw [ZeU]; exact hm⟩ (by simp) (uL S mid _ hmid) (by simp)) ?_)
 rintro ⟨j, es2⟩ ⟨hjl, hm2'⟩
 simp only at hjl hm2' ⊢
 (repeat apply za); refine pwn ?_; intros
 repeat apply za
 refine zl rfl (fun hq => ?_) (fun hq => ?_)
 ·simp at hq
  obtain ⟨s, tl, a1, a2, a3, e1, e0⟩ := el 2 rfl b j hq
  obtain ⟨rs, f1, _, _, f4, _⟩ := hm2'.find hkey s.c
  have hnew := f4 (i : Int)
  rw [ZeV a3] at hnew
  refine zd (za (ze ?_))
  repeat apply za
  refine pwN [] (jn3 e1 e0 hq) ?_
  intro v1
  repeat apply za
  refine xV (some [jid, nx + 1]) (Row.pures [0, 1, 2, 3, 4, 5, 6] (.alt 7 (.done) .stop)) mixed (by rfl) (by rfl) (by rfl) fun K Gp Gc Gh hK hGp hGc hGh X hX0 hX1 hX2 hX => ?_
  simp -implicitDefEqProofs [hX0, hX1, hX2, hX, yj]
  try clear hX0 hX1 hX2 hX X
  refine hGh _ _ _ _ _ (by rfl) (Zq (.inl rfl) Tryz.underlying288 Tryz.underlying3 rfl rfl rfl (ym _ _) f1 ?_)
  rw [xz _ hlm, Store.set_set]
  refine ⟨by simp [yf, yj], ?_⟩
  clear hGp hGc hGh
  clear Gp Gc Gh
  refine ju fun Gp Gc Gh hGp hGc hGh X hX0 hX1 hX2 hX => ?_
  simp -implicitDefEqProofs [hX0, hX1, hX2, hX]
  try clear hX0 hX1 hX2 hX X
  refine hK _ _ _ ?_
  clear hK hGp hGc hGh
  clear K Gp Gc Gh
  (repeat apply za); refine pwn ?_; intros
  exact zk (j + 1, y9 (yu s.c) (I i) es2 rs) [_] ⟨hq, hnew⟩ (by simp; omega) (by simp [wrN j (by omega)]) rfl (by simp; rfl)
 ·simp at hq
  obtain rfl : j = b.length := by omega
  refine zm ?_
  have yt1 := fun (o : Ob) obs => (zy (S := S.set mid o) (obs := obs) hlt).trans ((Store.set_other _ _ _ _ d3).trans ht)
  have yt2 := fun (o o' : Ob) obs => (zy (S := (S.set mid o).set tid o') (obs := obs) hlt).trans (Store.set_same _ _ _)
  have yj2 := fun (o o' : Ob) obs => (zy (S := (S.set mid o).set tid o') (obs := obs) hlj).trans ((Store.set_other _ _ _ _ d1).trans ((Store.set_other _ _ _ _ d2).trans hj))
  have hlen1 : (T.flatMap Enc.enc).length = ss.length := by rw [qm, hTl]
  have hs1 := JG (T.flatMap Enc.enc) i (L (a ++ b)) (by omega)
  have hs2 := JG ((T.flatMap Enc.enc).set i (L (a ++ b))) k (.sc (.slice none 0 0)) (by simp; omega)
  have hlt1 : ¬ nx ≤ tid := by omega
  have hlj1 : ¬ nx ≤ jid := by omega
  have wn : IntKind.i64.wrap (num - 1) = num - 1 := wr _ (by omega) (by omega)
  repeat apply za
  repeat apply za
  refine pwY (some [jid]) (Row.pures [0, 1, 2, 3, 4, 5, 6, 7, 8, 9, 10, 11] (.alt 12 (Row.pures [13] (.alt 14 (.done) .stop)) .stop)) mixed (jn6 yj yt1 yt2 yj2 hs1 (jn6 hs2 hil2 hkl2 hlen1 hlt1 hTl)) ?_
  refine ⟨by omega, by omega, ?_⟩
  intros
  have hcs : ((((T.flatMap Enc.enc).set i (L (a ++ b))).set k (.sc (.slice none 0 0))).set k (.lst 0 [])) = ((T.set i (a ++ b)).set k []).flatMap Enc.enc := by
   rw [List.set_set, VA, VA, List.map_set, List.map_set]
   rfl
  refine YV (o := tid) k (yt2 _ _ _) (by rw [List.getElem?_set_self (by simp; omega)]) ?_
  rw [xz _ hlt, Store.set_set, hcs]
  generalize ((T.set i (a ++ b)).set k []).flatMap Enc.enc = cs' at *
  repeat apply za
  refine pwN [] (jn3 yj2 hlj1 wn) ?_
  intros
  have e1 : ∀ (o o' o'' : Ob), ((S.set mid o).set tid o').set jid o'' = ((S.set jid o'').set tid o').set mid o := by
   intro o o' o''
   rw [Store.set_comm _ jid tid _ _ (fun e => d1 e.symm), Store.set_comm _ jid mid _ _ (fun e => d2 e.symm), Store.set_comm _ tid mid _ _ (fun e => d3 e.symm)]
  rw [e1]
  have hdd : ∀ (o o' o'' : Ob), zK nx (((S.set jid o'').set tid o').set mid o) := by
   intro o o' o'' q hq
   rw [Store.set_other _ _ _ _ (by omega), Store.set_other _ _ _ _ (by omega), Store.set_other _ _ _ _ (by omega)]
   exact hd q hq
  exact ⟨_, _, rfl, ⟨es2, _, hm2', hI.join hia hkb h1, rfl⟩, zL (hdd _ _ _)⟩
open Go Go.Shelf Go.RowKit Go.Lib Go.Sort
def Se : Store := fun _ => .dead
def Ce : Ctx := ⟨fun _ => none, 0, 0⟩
theorem ZeX (w : World) : Sim Ce Se w :=
 ⟨fun _ h => absurd rfl h, (fun _ _ h => by cases h), fun _ _ _ _ _ h => absurd rfl h, (fun _ _ _ _ h => by cases h), (fun _ _ _ h => by cases h)⟩
theorem JH (b : Nat) : ¬ Ce.M Se b := by rintro ⟨o, k, h, _⟩; exact h rfl
inductive Fz : PV → Prop where
 | junk : Fz .junk
 | sc (v : Value) : Fz (.sc v)
 | agg {cs : List PV} (h : ∀ p ∈ cs, Fz p) : Fz (.agg cs)
 | lst {n : Nat} {cs : List PV} (h : ∀ p ∈ cs, Fz p) : Fz (.lst n cs)
 | ip {cs : List PV} (h : ∀ p ∈ cs, Fz p) : Fz (.ip cs)
theorem ZeY {C : Ctx} {S : Store} {w : World} {p : PV} {v : Value} (h : Rel C S w p v) : Fz p → Rel Ce Se w p v := by
 induction h with
 | junk v => intro _; exact .junk v
 | sc v => intro _; exact .sc v
 | agg hl h1 _ ih => intro hz; cases hz with | agg hz => exact .agg hl h1 fun i c v hc hv => ih i c v hc hv (hz c (List.mem_of_getElem? hc))
 | tup hl _ ih => intro hz; cases hz
 | lst0 => intro _; exact .lst0
 | lst1 hn hm hb hM hs h1 _ ih => intro hz; cases hz with | lst hz => exact .lst1 hn hm hb (JH _) hs h1 fun i c v hc hv => ih i c v hc hv (hz c (List.mem_of_getElem? hc))
 | ip hb hM hs h1 _ ih => intro hz; cases hz with | ip hz => exact .ip hb (JH _) hs h1 fun i c v hc hv => ih i c v hc hv (hz c (List.mem_of_getElem? hc))
 | ptr _ _ _ => intro hz; cases hz
 | sl _ _ _ => intro hz; cases hz
 | fn _ _ _ _ _ _ => intro hz; cases hz
 | ifc _ _ => intro hz; cases hz
 | mp _ _ _ => intro hz; cases hz
theorem ZeZ {W w' : World} {C' : Ctx} {S' : Store} (h : Step Ce Se W C' S' w') : ∃ q os', w' = grow (W.drewN q) os' := by
 obtain ⟨p, hp⟩ := regrown_of_below (w := W) (w' := w') ⟨h.os, h.tape.1, h.output, h.size, fun b hb => (h.blocks b hb (JH b)).1⟩
 have hd := h.tape.2
 rw [hp] at hd
 refine ⟨p.d - W.drawn, p.os, ?_⟩
 rw [hp]
 have hd' : W.drawn ≤ p.d := hd
 have e : W.drawn + (p.d - W.drawn) = p.d := by omega
 unfold grow redrawn World.drewN
 rw [e]
section
variable {P : Program} {α : Type} [Inhabited α] {val : α → Int}
theorem Ze0 {C : Ctx} {S : Store} {w : World} {x : Int} {v : Value} (h : Rel C S w (I x) v) : v = .int .i64 x := by cases h; rfl
abbrev jk (val : α → Int) (x : α) : Value := .int .i64 (val x)
theorem Ze1 {g : Nat} {caps : List PV} {cf : α → α → Int} (hg : ∀ x y : α, Pure P g (I (val x) :: I (val y) :: caps) (I (cf x y))) (cb : Array Value) (hl : caps.length = cb.size) {w : World} {blk size : Nat}
  (hr : ∀ (m : Nat) (os : Array Obj) (dk : Array α), dk.size = size → ∀ (i : Nat) (c : PV) (v : Value), caps[i]? = some c → cb[i]? = some v → Rel Ce Se (sortWorld (jk val) w blk 0 m dk os) c v) : CmpLays1 P g cb (jk val) cf blk 0 size w := by
 intro m os dk hs x y
 refine ((hg x y Se).2 Ce (sortWorld (jk val) w blk 0 m dk os) (#[jk val x, jk val y] ++ cb) (ZeX _) (by simp; omega) ?_).mono ?_
 ·intro i c v hc hv
  match i with
  | 0 => rw [Array.getElem?_append_left (by simp)] at hv; cases hc; cases hv; exact .sc _
  | 1 => rw [Array.getElem?_append_left (by simp)] at hv; cases hc; cases hv; exact .sc _
  | i + 2 =>
   simp only [List.getElem?_cons_succ] at hc
   rw [Array.getElem?_append_right (by simp)] at hv
   exact hr m os dk hs i c v hc (by simpa using hv)
 ·rintro e w' ⟨p, v, S', C', rfl, ⟨rfl, rfl⟩, hrel, _, hst⟩
  cases hrel
  exact ⟨rfl, ZeZ hst⟩
theorem VB {C : Ctx} {S : Store} {w : World} (hS : Sim C S w) {id ver e b k : Nat} {cs0 : List PV} {c : Array Value} (hid : S id = .cells ver e cs0) (g1 : C.loc id = some (b, k)) (g2 : w.heap[b]? = some (.cells c e (0, 0))) (g3 : c.size = k) (dk : Array α) (hdk : dk.size ≤ k) (q : Nat) (os : Array Obj) :
  Sim (C.at id ver (C.loc id)) (S.set id (.cells ver e (dk.toList.map fun x => I (val x)))) (sortWorld (jk val) w b 0 q dk os) ∧
  Step C S w (C.at id ver (C.loc id)) (S.set id (.cells ver e (dk.toList.map fun x => I (val x)))) (sortWorld (jk val) w b 0 q dk os) := by
 have hb : b < w.heap.size := yx g2
 have hh : (sortWorld (jk val) w b 0 q dk os).heap[b]? = some (.cells (putCells (jk val) 0 dk c) e (0, 0)) := by
  unfold sortWorld
  rw [heap_grow_old _ _ (by simpa using hb)]
  simp [putRow, mapBlock, Sort.ahead, Array.getElem?_modify, g2, onCells]
 have hgr : w.grownBy (sortWorld (jk val) w b 0 q dk os) (some b) := by
  refine ⟨rfl, rfl, rfl, by simp [sortWorld], fun j hj hne => ?_⟩
  unfold sortWorld
  rw [heap_grow_old _ _ (by simpa using hj)]
  have : b ≠ j := fun e => hne (by rw [e])
  simp [putRow, mapBlock, Sort.ahead, Array.getElem?_modify, this]
 have hcell : ∀ i, i < dk.size → ∀ v, (putCells (jk val) 0 dk c)[i]? = some v → v = jk val dk[i]! := by
  intro i hi v hv
  have hic : i < c.size := by omega
  simp [putCells, hi, hic] at hv
  rw [← hv, getElem!_pos dk i hi]
 refine hS.turn (l := C.loc id) (ver' := ver) (cs' := dk.toList.map fun x => I (val x)) hid (Nat.le_refl _) (fun _ => rfl) ⟨by rw [g1]; exact hgr, Nat.le_add_right _ _⟩
  (.inr ⟨b, k, _, g1, .inr (by rw [g1]; rfl), hh, by simp [putCells, g3], by simpa using hdk, fun i v hi hv => ?_, fun i p v hp hv => ?_⟩)
 ·rw [hcell i (by simpa using hi) v hv]; rfl
 ·have hi : i < dk.size := by have := (List.getElem?_eq_some_iff.1 hp).1; simpa using this
  rw [hcell i hi v hv]
  rw [List.getElem?_map, Array.getElem?_toList, Array.getElem?_eq_getElem hi] at hp
  simp only [Option.map_some, Option.some.injEq] at hp
  rw [← hp, getElem!_pos dk i hi]
  exact .sc _
theorem Ze2 {ρ : Ren} (L : SlLaysF.n6 P ρ) (hE : yF P (ρ.f 6)) {S : Store} {id ver : Nat} {f : PV} : Spec P (ρ.f 6) [.sl id ver 1 0 0, f] S (fun p S' => S' = S) := by
 refine ⟨hE, ?_⟩
 intro C w vs hS hl hr
 obtain ⟨v0, v1, rfl⟩ : ∃ v0 v1, vs = #[v0, v1] := by
  match vs, hl with
  | ⟨[a, b]⟩, _ => exact ⟨a, b, rfl⟩
 have hv0 := hr 0 _ v0 rfl rfl
 cases hv0 with
 | sl h1 h2 h3 =>
  obtain ⟨a, cap, rfl, q1, q2, q3, q4⟩ := h1
  refine (AnyF.slices_SortFunc_none { L with } a cap _ w).mono ?_
  rintro e w' ⟨rfl, rfl⟩
  exact ⟨.junk, _, S, C, rfl, rfl, .junk _, hS, .refl _ _ _⟩
theorem Ze3 {ρ : Ren} (L : SlLaysF.n6 P ρ) (hE : yF P (ρ.f 6)) {S : Store} {id ver e : Nat} (zs : List α) (hid : S id = .cells ver e (zs.map fun x => I (val x))) (hn : zs.length ≤ 1048576)
  {g : Nat} (hG : yF P g) {caps : List PV} (hz : ∀ p ∈ caps, Fz p) (cf : α → α → Int) (hO : SWO (ltOf cf)) (hT : ∀ x y, (ltOf cf) x y = false → (ltOf cf) y x = false → x = y)
  (hg : ∀ x y : α, Pure P g (I (val x) :: I (val y) :: caps) (I (cf x y))) :
  Spec P (ρ.f 6) [.sl id ver 1 0 zs.length, .fn (.func g) [] caps] S (fun p S' => S' = S.set id (.cells ver e ((zs.mergeSort fun x y => !(ltOf cf) y x).map fun x => I (val x)))) := by
 refine ⟨hE, ?_⟩
 intro C w vs hS hl hr
 obtain ⟨v0, v1, rfl⟩ : ∃ v0 v1, vs = #[v0, v1] := by
  match vs, hl with
  | ⟨[a, b]⟩, _ => exact ⟨a, b, rfl⟩
 have hv0 := hr 0 _ v0 rfl rfl
 have hv1 := hr 1 _ v1 rfl rfl
 cases hv1 with
 | @fn _ _ _ fv cv hf hc hh' hcap =>
 obtain rfl : fv = #[] := by
  have : fv.size = 0 := by simpa using hf.symm
  exact Array.eq_empty_of_size_eq_zero this
 cases hv0 with
 | sl h1 h2 h3 =>
  obtain ⟨a, cap, rfl, q1, q2, q3, q4⟩ := h1
  by_cases h0 : zs = []
  ·subst h0
   refine (AnyF.slices_SortFunc_none { L with } a cap _ w).mono ?_
   rintro e w' ⟨rfl, rfl⟩
   refine ⟨.junk, _, S, C, rfl, ?_, .junk _, hS, .refl _ _ _⟩
   funext i
   simp only [Store.set, List.mergeSort_nil]
   split
   ·rename_i e; rw [e, hid]
   ·rfl
  ·have hpos : 0 < zs.length := List.length_pos_iff.2 h0
   rcases hS.cells id ver _ _ hid with ⟨hn', hnil⟩ | ⟨b, k, c, g1, g2, g3, g4, g5, g6⟩
   ·simp at hnil; exact absurd hnil h0
   ·have ha : a = some ⟨b, 0, none⟩ := by
     rcases (h3 ver (by rw [hid]; rfl)).2 rfl with ⟨z1, _⟩ | ⟨b', k', a', cap', z1, z2, z3, z4⟩
     ·rw [g1] at z1; cases z1
     ·rw [g1] at z1; cases z1; cases z2; exact (z3 rfl).1
    subst ha
    rw [List.length_map] at g4 g5
    have hcells : ∀ i (hi : i < zs.length), c[i]? = some (jk val zs[i]) := by
     intro i hi
     have hi' : i < c.size := by omega
     have e1 : (zs.map fun x => I (val x))[i]? = some (I (val zs[i])) := by simp [hi]
     have e2 : c[i]? = some c[i] := by simp
     rw [e2, Ze0 (g6 i _ _ e1 e2)]
    have hH : Holds (jk val) w b 0 zs.toArray := by
     intro j hj
     have hj' : j < zs.length := by simpa using hj
     refine ⟨?_, by simp [World.frozen?, g2]⟩
     simp only [World.cell?, g2, Nat.zero_add, Option.isSome_none, Bool.false_eq_true, if_false]
     rw [hcells j hj', getElem!_pos zs.toArray j hj]
     simp
    have hlays : CmpLays1 P g cv (jk val) cf b 0 zs.toArray.size w := by
     refine Ze1 hg cv (by simpa using hc) fun m os dk hs i p v hp hv => ?_
     obtain ⟨_, st⟩ := VB (val := val) hS hid g1 g2 g3 dk (by rw [hs]; simpa using g4) m os
     exact ZeY ((hcap i p v hp hv).mono st) (hz p (List.mem_of_getElem? hp))
    have hk := Any.slices_SortFunc_total L (jk val) (fun _ => rfl) cf hO g cv b 0 cap zs.toArray w hG hlays hH (yx g2) (by simp; omega) hT
    simp only [List.size_toArray] at hk
    refine hk.mono ?_
    rintro e w' ⟨rfl, m, os, rfl⟩
    obtain ⟨t1, t2⟩ := VB (val := val) hS hid g1 g2 g3 (zs.mergeSort fun x y => !(ltOf cf) y x).toArray (by simpa using g4) m os
    exact ⟨.junk, _, _, _, rfl, rfl, .junk _, t1, t2⟩
end
open Go
set_option maxRecDepth 20000 in
theorem VC (x : Int) : Pure Tryz.prog 230 [I x] (B false) := by
 refine pwe Tryz.func230 Tryz.ntmps230 Tryz.results230 fun S nx hd => ?_
 (repeat apply za); refine pwn ?_; intros
 (repeat apply za); refine pwn ?_; intros
 repeat apply za
 exact zb (zg hd (by simp; rfl) rfl)
set_option maxRecDepth 20000 in
theorem VD (x y : Int) : Pure Tryz.prog 282 [I x, I y] (I (jU x y)) := by
 refine pwe Tryz.func282 Tryz.ntmps282 Tryz.results282 fun S nx hd => ?_
 (repeat apply za); refine pwn ?_; intros
 repeat apply za
 refine pwn ?_
 refine pwc (VC x) ?_
 intros
 repeat apply za
 refine pwn ?_
 refine pwc (VC y) ?_
 intros
 (repeat apply za); refine pwn ?_; intros
 repeat apply za
 refine zj (by simp) ?_
 refine zd ?_
 (repeat apply za); refine pwn ?_; intros
 repeat apply za
 refine zj (by simp) ?_
 refine zd ?_
 by_cases h1 : x < y
 ·repeat apply za
  refine pwN [] h1 ?_
  intros
  repeat apply za
  refine zh (by simp [h1]) ?_
  (repeat apply za); refine pwn ?_; intros
  repeat apply za
  exact zb (zg hd (by simp; rfl) (by simp [jU, h1, zi]))
 repeat apply za
 refine pwN [] h1 ?_
 intros
 repeat apply za
 refine zj (by simp [h1]) ?_
 refine zd ?_
 by_cases h2 : y < x
 ·repeat apply za
  refine pwN [] h2 ?_
  intros
  repeat apply za
  refine zh (by simp [h2]) ?_
  (repeat apply za); refine pwn ?_; intros
  repeat apply za
  exact zb (zg hd (by simp; rfl) (by simp [jU, h1, h2, zi]))
 repeat apply za
 refine pwN [] h2 ?_
 intros
 repeat apply za
 refine zj (by simp [h2]) ?_
 refine zd ?_
 (repeat apply za); refine pwn ?_; intros
 repeat apply za
 exact zb (zg hd (by simp; rfl) (by simp [jU, h1, h2, zi]))
set_option maxRecDepth 20000 in
theorem Ze4 (x y : Int) : Pure Tryz.prog 281 [.lst 2 [I x, I y]] (I (if x = 0 then y else x)) := by
 refine pwe Tryz.func281 Tryz.ntmps281 Tryz.results281 fun S nx hd => ?_
 (repeat apply za); refine pwn ?_; intros
 (repeat apply za); refine pwn ?_; intros
 (repeat apply za); refine pwn ?_; intros
 repeat apply za
 refine ze (zq (fun s : Nat => s ≤ 2 ∧ (0 < s → x = 0) ∧ (1 < s → y = 0)) (fun k => [(3, I 0), (6, .lst 2 [I x, I y]), (7, I 2), (8, I k)]) (fun _ => []) (fun s => 2 - s) 0 [] (by simp) (by simp) (by simp) ?_)
 rintro k ⟨hk, hk1, hk2⟩
 match k, hk, hk1, hk2 with
 | 0, _, _, _ =>
  (repeat apply za); refine pwn ?_; intros
  repeat apply za
  refine zh (by simp) ?_
  refine zd (za (ze ?_))
  (repeat apply za); refine pwn ?_; intros
  by_cases hx : x = 0
  ·repeat apply za
   refine pwN [] hx ?_
   intros
   repeat apply za
   refine zj (by simp [hx]) ?_
   refine zd ?_
   (repeat apply za); refine pwn ?_; intros
   exact zk 1 [] ⟨by omega, fun _ => hx, by omega⟩ (by omega) (by simp [hx]; rfl) rfl (by simp)
  ·repeat apply za
   refine pwN [] hx ?_
   intros
   repeat apply za
   refine zh (by simp [hx]) ?_
   (repeat apply za); refine pwn ?_; intros
   repeat apply za
   exact zb (zg hd (by simp; rfl) (by simp [hx, zi]))
 | 1, _, hk1, _ =>
  have hx := hk1 (by omega)
  (repeat apply za); refine pwn ?_; intros
  repeat apply za
  refine zh (by simp) ?_
  refine zd (za (ze ?_))
  (repeat apply za); refine pwn ?_; intros
  by_cases hy : y = 0
  ·repeat apply za
   refine pwN [] hy ?_
   intros
   repeat apply za
   refine zj (by simp [hy]) ?_
   refine zd ?_
   (repeat apply za); refine pwn ?_; intros
   exact zk 2 [] ⟨by omega, fun _ => hx, fun _ => hy⟩ (by omega) (by simp [hy]; rfl) rfl (by simp)
  ·repeat apply za
   refine pwN [] hy ?_
   intros
   repeat apply za
   refine zh (by simp [hy]) ?_
   (repeat apply za); refine pwn ?_; intros
   repeat apply za
   exact zb (zg hd (by simp; rfl) (by simp [hx, zi]))
 | 2, _, hk1, hk2 =>
  (repeat apply za); refine pwn ?_; intros
  repeat apply za
  refine zj (by simp) ?_
  refine zm ?_
  (repeat apply za); refine pwn ?_; intros
  repeat apply za
  exact zb (zg hd (by simp; rfl) (by simp [hk1 (by omega), hk2 (by omega), zi]))
set_option maxRecDepth 20000 in
theorem Ze5 (l : List Int) (i j : Fin l.length) (hn : l.length ≤ 1048576) : Pure Tryz.prog 280 [I i.val, I j.val, .ip [L l]] (I (cfW l i j)) := by
 obtain ⟨a, tl, a1, a2, a3, e0⟩ := el1 rfl l i.val i.isLt
 obtain ⟨b, tl2, b1, b2, b3, e1⟩ := el1 rfl l j.val j.isLt
 have hi := i.isLt
 have hj := j.isLt
 have ha : l.getD i.val 0 = a := by rw [List.getD_eq_getElem?_getD, a1]; rfl
 have hb : l.getD j.val 0 = b := by rw [List.getD_eq_getElem?_getD, b1]; rfl
 have hor := Ze4 (jU a b) (jU i.val j.val)
 have hres : cfW l i j = if jU a b = 0 then jU (i.val : Int) j.val else jU a b := by unfold cfW; rw [ha, hb]
 rw [hres]
 refine pwe Tryz.func280 Tryz.ntmps280 Tryz.results280 fun S nx hd => ?_
 (repeat apply za); refine pwn ?_; intros
 repeat apply za
 refine pwY none (Row.pures [0, 1, 2, 3, 4, 5, 6, 7, 8, 9, 10, 11, 12, 13, 14] .done) mixed (jn4 hi hj e0 e1) ?_
 refine pwP (VD a b) (jn4 hi hj e0 e1) ?_
 refine pwP (VD i.val j.val) trivial ?_
 refine pwP (hor) trivial ?_
 intros
 repeat apply za
 exact zb (zg hd (by simp; rfl) rfl)
theorem JJ (l : List Int) : l.flatMap Enc.enc = l.map I := by induction l <;> simp_all
theorem Ze6 (l : List Int) : ∀ p ∈ [PV.ip [L l]], Fz p := by
 intro p hp
 simp only [List.mem_singleton] at hp
 subst hp
 refine .ip fun q hq => ?_
 simp only [List.mem_singleton] at hq
 subst hq
 refine .lst fun r hr => ?_
 rw [JJ] at hr
 obtain ⟨x, _, rfl⟩ := List.mem_map.1 hr
 exact .sc _
def jy (n k : Nat) : List Int := (List.range n).map fun i => if i < k then (i : Int) else 0
theorem Ze7 (n k : Nat) : (jy n k).length = n := by simp [jy]
theorem Ze8 (n : Nat) : jy n 0 = List.replicate n 0 := by
 apply List.ext_getElem
 ·simp [jy]
 ·intro i h1 h2; simp [jy]
theorem Ze9 (n k : Nat) (h : k < n) : (jy n k).set k (k : Int) = jy n (k + 1) := by
 apply List.ext_getElem
 ·simp [jy]
 ·intro i h1 h2
  rw [List.getElem_set]
  simp only [jy, List.getElem_map, List.getElem_range]
  by_cases e : k = i
  ·subst e; rw [if_pos rfl, if_pos (by omega)]
  ·rw [if_neg e]
   by_cases h3 : i < k
   ·rw [if_pos h3, if_pos (by omega)]
   ·rw [if_neg h3, if_neg (by omega)]
theorem Zfa (n : Nat) : jy n n = (List.finRange n).map fun x => (x.val : Int) := by
 apply List.ext_getElem
 ·simp [jy]
 ·intro i h1 h2
  have : i < n := by simpa [jy] using h1
  simp [jy, this]
theorem VE {α : Type} (l : List α) (f : α → Int) : (l.map f).flatMap Enc.enc = l.map fun x => I (f x) := by induction l <;> simp_all
theorem Zfb (n : Nat) : y8 n (.int .i64 0) = (List.replicate n (0 : Int)).flatMap Enc.enc := by
 induction n with
 | zero => simp
 | succ n ih => rw [wE, ih, List.replicate_succ]; simp [yK, Value.cells]
theorem Zfc (l : List Int) (k : Nat) (v : Int) (h : k < l.length) : zJ (l.flatMap Enc.enc) k [I v] = (l.set k v).flatMap Enc.enc := by
 rw [JJ, JJ, zJ, List.map_set, List.set_eq_take_append_cons_drop, if_pos (by simpa using h)]
 simp
set_option maxRecDepth 20000 in
theorem Zfd (l : List Int) (hn : l.length ≤ 1048576) : Pure Tryz.prog 273 [L l] (L (jK l)) := by
 have hE : yF Tryz.prog 279 := yL Tryz.func279 (by rfl) rfl
 have hG : yF Tryz.prog 280 := yL Tryz.func280 (by rfl) rfl
 refine pwe Tryz.func273 Tryz.ntmps273 Tryz.results273 fun S nx hd => ?_
 repeat apply za
 refine pwn ?_
 intro v0
 repeat apply za
 refine pwn ?_
 refine ⟨by omega, fun v1 => ?_⟩
 intros
 (repeat apply za); refine pwn ?_; intros
 repeat apply za
 refine ze (zq (fun s : Nat => s ≤ l.length) (fun k => [(1, .ptr nx v0 0), (3, .sl (nx + 1) v1 1 0 l.length), (9, I l.length), (10, I k)]) (fun k => [.cells v0 54 [L l], .cells v1 3 ((jy l.length k).flatMap Enc.enc)]) (fun s => l.length - s) 0 [] (by simp) (by simp) (by simp [Ze8, Zfb]) ?_)
 rintro k hk
 (repeat apply za); refine pwn ?_; intros
 repeat apply za
 refine zl rfl (fun hc => ?_) (fun hc => ?_)
 ·simp at hc
  have hl1 := Ze7 l.length k
  have hsp := Zfc (jy l.length k) k k (by omega)
  rw [Ze9 _ _ hc] at hsp
  refine zd (za (ze ?_))
  (repeat apply za); refine pwn ?_; intros
  repeat apply za
  refine pwN [] (jn3 hc hl1 hsp) ?_
  refine ⟨by omega, ?_⟩
  intros
  (repeat apply za); refine pwn ?_; intros
  exact zk (k + 1) [] hc (by omega) (by simp [wrN k (by omega)]) rfl (by simp)
 ·simp at hc
  obtain rfl : k = l.length := by omega
  refine zm ?_
  rw [Zfa, VE]
  refine xh 0 rfl ?_
  repeat apply za
  refine zN [] (by rfl) (by rfl) fun K Gc Gh hK hGc hGh X hX0 hX => ?_
  simp -implicitDefEqProofs [hX0, hX]
  try clear hX0 hX X
  by_cases h0 : l.length = 0
  ·obtain rfl : l = [] := List.eq_nil_of_length_eq_zero h0
   refine hGc _ _ _ _ _ _ _ fun hsuf => ((Ze2 Tryz.laysSlF6_f279 hE).mono ?_).v
   rintro _ _ rfl
   refine ⟨_, _, rfl, ?_⟩
   clear hGc hGh
   clear Gc Gh
   refine zI hsuf (D := []) (by rfl) fun Gc Gh hGc hGh X hX0 hX => ?_
   simp -implicitDefEqProofs [hX0, hX]
   clear hX0 hX X
   intros
   refine hK _ _ _ ?_
   clear hK hGc hGh
   clear K Gc Gh
   refine zC 1 rfl ?_
   (repeat apply za); refine pwn ?_; intros
   have hs0 : jK [] = [] := List.eq_nil_of_length_eq_zero (Jz [])
   repeat apply za
   exact zb (zg hd (by simp; rfl) (by rw [hs0]; rfl))
  ·haveI : Inhabited (Fin l.length) := ⟨⟨0, by omega⟩⟩
   have hs := fun S id ver hid => Ze3 (S := S) (id := id) (ver := ver) (e := 3) (val := fun i : Fin l.length => (i.val : Int)) Tryz.laysSlF6_f279 hE (List.finRange l.length) hid (by simp; omega) hG (Ze6 l) (cfW l) (YS l) (Vw l) (fun x y => Ze5 l x y hn)
   rw [List.length_finRange] at hs
   have hfl := VE (ud l) (fun i => (i.val : Int))
   have hsl := Jz l
   refine hGc _ _ _ _ _ _ _ fun hsuf => ((hs _ (nx + 1) v1 (by rw [yP]; rfl)).mono ?_).v
   rintro _ _ rfl
   refine ⟨_, _, qg _ (by omega) (by simp), ?_⟩
   rw [show (((List.finRange l.length).mergeSort fun x y => !(ltOf (cfW l)) y x).map fun x => I (x.val : Int)) = (jK l).flatMap Enc.enc from hfl.symm]
   clear hGc hGh
   clear Gc Gh
   refine zI hsuf (D := []) (by rfl) fun Gc Gh hGc hGh X hX0 hX => ?_
   simp -implicitDefEqProofs [hX0, hX, (show nx + 1 - nx = 1 from by omega)]
   clear hX0 hX X
   intros
   refine hK _ _ _ ?_
   clear hK hGc hGh
   clear K Gc Gh
   refine zC 1 rfl ?_
   repeat apply za
   refine pwN [] hsl ?_
   intros
   repeat apply za
   exact zb (zg hd (by simp; rfl) (by simp [zi, hsl]))
open Go Hp
theorem Zfe (x : Inst) (c : List Int) (a b : Int) : qc x (c ++ [b]) a = qc x c a ++ (if b ≠ a then [⟨a, b, qN x a b⟩] else []) := by
 unfold qc
 by_cases h : b = a <;> simp [h]
theorem Zff (x : Inst) (c : List Int) (a : Int) : (qc x c a).length ≤ c.length := by
 unfold qc
 rw [List.length_map]; exact List.length_filter_le _ _
theorem Zfg (l : List Pr) (p : Pr) : yv (l ++ [p]) = yv l ++ [-p.s] := by simp [yv]
theorem Zfh (l : List Pr) : (yv l).length = l.length := by simp [yv]
set_option maxRecDepth 20000 in
theorem Zfi (x : Inst) (c : List Int) (a : Int) (hx : yq x) (hc : c.length ≤ 1048576) (hs : ∀ b ∈ c, small b) (ha : small a) : Pure Tryz.prog 262 [.agg (zp x), L c, I a] (L (qW x c a)) := by
 refine pwe Tryz.func262 Tryz.ntmps262 Tryz.results262 fun S nx hd => ?_
 repeat apply za
 refine pwn ?_
 intro v0
 (repeat apply za); refine pwn ?_; intros
 refine za (yA 7 185 3 rfl fun v1 => ?_)
 (repeat apply za); refine pwn ?_; intros
 refine za (yA 8 3 1 rfl fun v2 => ?_)
 (repeat apply za); refine pwn ?_; intros
 repeat apply za
 refine ze (zq (fun s : Nat × List Pr × Nat × Nat => s.1 ≤ c.length ∧ s.2.1 = qc x (c.take s.1) a) (fun (k, ps, v1, v2) => [(1, L c), (2, I a), (3, .ptr nx v0 0), (7, .sl (nx + 1) v1 3 0 ps.length), (8, .sl (nx + 2) v2 1 0 ps.length), (15, L c), (16, I c.length), (17, I k)]) (fun (k, ps, v1, v2) => [.cells v0 25 (zp x), .cells v1 185 (ps.flatMap Enc.enc), .cells v2 3 ((yv ps).flatMap Enc.enc)]) (fun s => c.length - s.1) (0, [], v1, v2) [] (by simp [qc]) (by simp) (by simp [yv]) ?_)
 rintro ⟨k, ps, v1, v2⟩ ⟨hk, ho⟩
 simp only at hk ho ⊢
 have hpl : ps.length ≤ k := by rw [ho]; refine Nat.le_trans (Zff _ _ _) ?_; simp; omega
 have hnl := Zfh ps
 (repeat apply za); refine pwn ?_; intros
 repeat apply za
 refine zl rfl (fun hq => ?_) (fun hq => ?_)
 ·simp at hq
  obtain ⟨b, tl, a1, a2, a3, e0⟩ := el1 rfl c k hq
  have hb := hs b (List.mem_of_getElem? a1)
  have hsv := JE hx a b
  have w5 : IntKind.i64.wrap (-qN x a b) = -qN x a b := wr _ (by omega) (by omega)
  have hsn := Zfe x (c.take k) a b
  rw [← a3, ← ho] at hsn
  refine zd (za (ze ?_))
  repeat apply za
  refine pwN [] (jn2 e0 hq) ?_
  intros
  (repeat apply za); refine pwn ?_; intros
  repeat apply za
  refine zl rfl (fun hne => ?_) (fun hne => ?_)
  ·simp at hne
   rw [if_pos hne] at hsn
   repeat apply za
   refine pwn ?_
   refine pwc (ZeO x a b hx ha hb) ?_
   intro v3
   intros
   repeat apply za
   refine pwn ?_
   refine ⟨by omega, ?_⟩
   intros
   have htk : List.take ps.length ((yv ps).flatMap Enc.enc) = (yv ps).flatMap Enc.enc := by rw [← hnl]; exact ZcQ _
   have hnf : ((yv ps).flatMap Enc.enc).length = ps.length := by rw [qk, hnl]
   repeat apply za
   refine pwN [] (jn3 w5 htk hnf) ?_
   refine ⟨by omega, ?_⟩
   intros
   (repeat apply za); refine pwn ?_; intros
   exact zk (k + 1, ps ++ [⟨a, b, qN x a b⟩], v1 + 1, v2 + 1) [_] ⟨hq, hsn.symm⟩ (by simp; omega) (by simp [wrN k (by omega)]) rfl (by simp [Zfg]; rfl)
  ·simp at hne
   rw [if_neg (by simp [hne]), List.append_nil] at hsn
   refine zd ?_
   (repeat apply za); refine pwn ?_; intros
   exact zk (k + 1, ps, v1, v2) [] ⟨hq, hsn.symm⟩ (by simp; omega) (by simp [wrN k (by omega)]) rfl (by simp)
 ·simp at hq
  obtain rfl : k = c.length := by omega
  rw [List.take_length] at ho
  refine zm ?_
  refine zC 1 rfl ?_
  refine zC 2 rfl ?_
  (repeat apply za); refine pwn ?_; intros
  refine za (yA 12 185 3 rfl fun v3 => ?_)
  have hrw : qW x c a = (jK (yv ps)).map (jL ps) := by rw [ho]; rfl
  rw [hrw]
  have hsl := Jz (yv ps)
  have hmem : ∀ z ∈ jK (yv ps), 0 ≤ z ∧ z < ps.length := fun z h => by have := Zev h; omega
  have hcall := Zfd (yv ps) (by omega)
  rw [show L (yv ps) = PV.lst ps.length ((yv ps).flatMap Enc.enc) from by rw [← hnl]] at hcall
  generalize yv ps = ns at *
  repeat apply za
  refine pwN [] hnl ?_
  refine pwc hcall ?_
  intros
  generalize jK ns = is at *
  repeat apply za
  refine ze (zq (fun s : Nat × List Pr × Nat => s.1 ≤ is.length ∧ s.2.1 = (is.take s.1).map (jL ps)) (fun (k, os, v) => [(7, L ps), (12, .sl (nx + 3) v 3 0 os.length), (43, L is), (44, I is.length), (45, I k)]) (fun (k, os, v) => [.cells v0 25 (zp x), .dead, .dead, .cells v 185 (os.flatMap Enc.enc)]) (fun s => is.length - s.1) (0, [], v3) [] (by simp) (by simp [hnl]) (by simp) ?_)
  rintro ⟨k, os, v⟩ ⟨hk, ho2⟩
  simp only at hk ho2 ⊢
  (repeat apply za); refine pwn ?_; intros
  repeat apply za
  refine zl rfl (fun hq => ?_) (fun hq => ?_)
  ·simp at hq
   obtain ⟨i, tl, a1, a2, a3, e0⟩ := el1 rfl is k hq
   obtain ⟨q1, q2⟩ := hmem i (List.mem_of_getElem? a1)
   obtain ⟨j, rfl⟩ : ∃ j : Nat, i = j := ⟨i.toNat, by omega⟩
   have hj : j < ps.length := by omega
   obtain ⟨p, tp, b1, b2, b3, e1, e2⟩ := el 3 rfl ps j hj
   have hg : jL ps (j : Int) = p := by simp [jL, List.getD_eq_getElem?_getD, b1]
   have hgs : (is.take (k + 1)).map (jL ps) = os ++ [p] := by rw [a3, ho2]; simp [hg]
   have hgl : os.length = k := by rw [ho2]; simp; omega
   refine zd (za (ze ?_))
   repeat apply za
   refine pwN [] (jn2 e0 hq) ?_
   intros
   repeat apply za
   refine pwN [] (jn3 e1 e2 hj) ?_
   refine ⟨by omega, ?_⟩
   intros
   (repeat apply za); refine pwn ?_; intros
   exact zk (k + 1, os ++ [p], v + 1) [] ⟨hq, hgs.symm⟩ (by simp; omega) (by simp [wrN k (by omega)]) rfl (by simp)
  ·simp at hq
   obtain rfl : k = is.length := by omega
   rw [List.take_length] at ho2
   refine zm ?_
   refine zC 3 rfl ?_
   (repeat apply za); refine pwn ?_; intros
   repeat apply za
   exact zb (zg hd (by simp; rfl) (by simp [zi, ho2]))
open Go Hp
@[simp] theorem ZlQ (d1 d2 a b c : Ob) (l : List Ob) (o : Ob × Ob × Ob) : x6 (d1 :: d2 :: a :: b :: c :: l) 2 o = d1 :: d2 :: o.1 :: o.2.1 :: o.2.2 :: l := rfl
theorem HX.srt {o : Ob × Ob × Ob} {a hv mv : Nat} {r : Its Int} (h : HX o a hv mv r) : jJ r := by
 obtain ⟨_, _, _, h⟩ := h (fun i => if i = a then o.1 else if i = a + 1 then o.2.1 else o.2.2) (by simp) (by simp) (by simp)
 exact h
theorem Zfj {id : Int} {r : Its Int} (h : ∀ x ∈ r, x.1 ≠ id) : qp id r = false := by
 simp only [qp, List.any_eq_false]; intro x hx; simpa using h x hx
def prV (p : Pr) : List PV := [.agg [I p.a, I p.b, I p.s]]
def qq (x : Inst) (c : List Int) (k : Nat) : List (List Pr) := (c.take k).map (qW x c)
theorem VF (x : Inst) (c : List Int) : qq x c 0 = [] := by simp [qq]
theorem Zfk {x : Inst} {c : List Int} {k : Nat} {a : Int} (h : c.take (k + 1) = c.take k ++ [a]) : qq x c (k + 1) = qq x c k ++ [qW x c a] := by simp [qq, h]
theorem Zfl (x : Inst) (c : List Int) : qq x c c.length = c.map (qW x c) := by simp [qq]
theorem VG (x : Inst) (c : List Int) (k : Nat) (h : k ≤ c.length) : (qq x c k).length = k := by simp [qq]; omega
def jV (rows : List (List Pr)) (n : Nat) : List PV := rows.flatMap Enc.enc ++ List.replicate (n - rows.length) (.sc (.slice none 0 0))
theorem VH (rows : List (List Pr)) (n : Nat) (h : rows.length ≤ n) : (jV rows n).length = n := by simp [jV]; omega
theorem Zfm (n : Nat) : jV [] n = y8 n (.slice none 0 0) := by
 unfold jV
 simp only [List.flatMap_nil, List.nil_append, List.length_nil, Nat.sub_zero]
 induction n with
 | zero => simp
 | succ n ih => rw [wE, List.replicate_succ, ih]; simp [yK, Value.cells]
theorem Zfn (rows : List (List Pr)) : jV rows rows.length = rows.flatMap Enc.enc := by simp [jV]
theorem Zfo (rows : List (List Pr)) (n : Nat) (r : List Pr) (h : rows.length < n) : zJ (jV rows n) rows.length [L r] = jV (rows ++ [r]) n := by
 unfold jV zJ
 have h1 : (rows.flatMap Enc.enc).length = rows.length := qm rows
 obtain ⟨m, hm⟩ : ∃ m, n - rows.length = m + 1 := ⟨n - rows.length - 1, by omega⟩
 rw [hm, List.replicate_succ]
 rw [List.take_append_of_le_length (by omega), List.take_of_length_le (by omega)]
 rw [List.drop_append, List.drop_of_length_le (by simp)]
 simp [h1, show n - (rows.length + 1) = m by omega]
theorem Zfp (rows : List (List Pr)) (n : Nat) (r : List Pr) : (jV (rows ++ [r]) n)[rows.length]? = some (L r) := by
 unfold jV
 rw [List.flatMap_append, List.append_assoc, List.getElem?_append_right (by rw [qm]; exact Nat.le_refl _), qm]
 simp
theorem Zfq (rows : List (List Pr)) (k : Nat) (r : List Pr) (h : k < rows.length) : zJ (rows.flatMap Enc.enc) k [L r] = (rows.set k r).flatMap Enc.enc := by
 have e : ∀ l : List (List Pr), l.flatMap Enc.enc = l.map fun r => L r := fun l => by induction l <;> simp_all
 rw [e, e, zJ, List.map_set, List.set_eq_take_append_cons_drop, if_pos (by simpa using h)]
 simp
theorem YW : ∀ (rows : List (List Pr)) (i : Nat) (r : List Pr), zV i (rows ++ [r]) = zV i rows ++ zV (i + rows.length) [r]
 | [], i, r => by simp [zV]
 | [] :: rows, i, r => by
  simp only [List.cons_append, zV, List.length_cons]
  rw [YW rows (i + 1) r, show i + 1 + rows.length = i + (rows.length + 1) by omega]
 | (p :: l) :: rows, i, r => by
  simp only [List.cons_append, zV, List.length_cons]
  rw [YW rows (i + 1) r, show i + 1 + rows.length = i + (rows.length + 1) by omega]
theorem Zfr (rows : List (List Pr)) : zV 0 (rows ++ [[]]) = zV 0 rows := by rw [YW]; simp [zV]
theorem Zfs (rows : List (List Pr)) (p : Pr) (tl : List Pr) : (zV 0 (rows ++ [p :: tl])).Perm (((rows.length : Int), -p.s) :: zV 0 rows) := by
 rw [YW]
 simp only [zV, Nat.zero_add]
 exact List.perm_append_comm
theorem VI {rows : List (List Pr)} {k : Nat} (h : rows.getD k [] = []) {r : Its Int} (hp : r.Perm (zV 0 rows)) : qp (k : Int) r = false := by
 refine Zfj fun x hx e => ?_
 obtain ⟨j, p, tl, hj, rfl⟩ := (uO rows 0 x).1 (hp.subset hx)
 simp only [Nat.zero_add] at e
 have : j = k := by omega
 subst this
 rw [List.getD_eq_getElem?_getD, hj] at h
 cases h
set_option maxRecDepth 20000 in
theorem Zft (x : Inst) (ss : List Stop) : Pure Tryz.prog 245 [.agg (zp x), L ss] (.fn (.func 260) [] [.ip [L ss], .ip (zp x)]) := by
 refine pwe Tryz.func245 Tryz.ntmps245 Tryz.results245 fun S nx hd => ?_
 repeat apply za
 refine pwn ?_
 intro v0 v1
 (repeat apply za); refine pwn ?_; intros
 refine xh 0 rfl ?_
 refine xh 1 rfl ?_
 repeat apply za
 exact zb (zg hd (by simp; rfl) rfl)
set_option maxRecDepth 20000 in
theorem Zfu (x : Inst) (ss : List Stop) (hx : yq x) (hss : ss.length ≤ 1048576) (hs : ∀ s ∈ ss, small s.c) (hnd : (ss.map (·.c)).Nodup) : vV Tryz.prog 260 [.ip [L ss], .ip (zp x)] ((yG x (ss.map (·.c))).map prV) := by
 have hcust := fun S nx hd => ZC ss hss S nx hd
 obtain ⟨zs, hzs⟩ : ∃ zs, zs = ss.map (·.c) := ⟨_, rfl⟩
 have hzl : ss.length = zs.length := by rw [hzs]; simp
 rw [← hzs, hzl] at hcust
 rw [← hzs] at hnd ⊢
 have hzsm : ∀ b ∈ zs, small b := by
  intro b hb; rw [hzs] at hb; obtain ⟨s, h1, rfl⟩ := List.mem_map.1 hb; exact hs s h1
 have hz1 := ZE zs
 have hz2 := Vd zs
 have hz3 := (Jn zs).2 hnd
 have hz4 := vi zs
 have hz5 : yG x zs = yG x (zZ zs) := ZeE hnd hz3 hz2.symm
 have hz6 : (zZ zs).Pairwise (· < ·) := (List.Pairwise.and hz1 hz3).imp fun ⟨h1, h2⟩ => by omega
 have hzn : zs.length ≤ 1048576 := by omega
 have hcsm : ∀ b ∈ zZ zs, small b := fun b hb => hzsm b (hz2.subset hb)
 have hsort := fun (S : Store) (id ver : Nat) (hid : S id = .cells ver 3 (zs.flatMap Enc.enc)) => YM zs hid hzn
 rw [hz5]
 generalize zZ zs = c at *
 clear hzs hz1 hz5
 refine YG Tryz.func260 (by rfl) rfl Tryz.ntmps260 (congrArg Array.toList Tryz.results260) (by simp) fun l V keep nx J hJd hY A0 hA0 => ?_
 repeat apply za
 refine zN [] (by rfl) (by rfl) fun K Gc Gh hK hGc hGh X hX0 hX => ?_
 simp -implicitDefEqProofs [hX0, hX]
 try clear hX0 hX X
 refine hGc _ _ _ _ _ _ _ fun hsuf => ((hcust _ _ jF).mono ?_).v
 rintro _ _ ⟨v1, rfl, rfl⟩
 refine ⟨_, _, YE _, ?_⟩
 clear hGc hGh
 clear Gc Gh
 refine zI hsuf (D := []) (by rfl) fun Gc Gh hGc hGh X hX0 hX => ?_
 simp -implicitDefEqProofs [hX0, hX, Nat.add_assoc]
 clear hX0 hX X
 intros
 refine hK _ _ _ ?_
 clear hK hGc hGh
 clear K Gc Gh
 repeat apply za
 refine zN [] (by rfl) (by rfl) fun K Gc Gh hK hGc hGh X hX0 hX => ?_
 simp -implicitDefEqProofs [hX0, hX]
 try clear hX0 hX X
 refine hGc _ _ _ _ _ _ _ fun hsuf => ((hsort _ _ _ (by simp)).mono ?_).v
 rintro _ _ rfl
 refine ⟨_, _, qg _ (by simp) (by simp), ?_⟩
 clear hGc hGh
 clear Gc Gh
 refine zI hsuf (D := []) (by rfl) fun Gc Gh hGc hGh X hX0 hX => ?_
 simp -implicitDefEqProofs [hX0, hX]
 clear hX0 hX X
 intros
 refine hK _ _ _ ?_
 clear hK hGc hGh
 clear K Gc Gh
 rw [← hz4]
 refine zC 1 rfl ?_
 repeat apply za
 refine zN [] (by rfl) (by rfl) fun K Gc Gh hK hGc hGh X hX0 hX => ?_
 simp -implicitDefEqProofs [hX0, hX]
 try clear hX0 hX X
 refine hGc _ _ _ _ _ _ _ fun hsuf => (Zer.mono ?_).v
 rintro p _ ⟨hv, mv, o1, rfl, m1, rfl⟩
 refine ⟨_, _, rfl, ?_⟩
 clear hGc hGh
 clear Gc Gh
 refine zI hsuf (D := []) (by rfl) fun Gc Gh hGc hGh X hX0 hX => ?_
 simp -implicitDefEqProofs [hX0, hX]
 clear hX0 hX X
 intros
 refine hK _ _ _ ?_
 clear hK hGc hGh
 clear K Gc Gh
 simp at m1
 repeat apply za
 refine pwn ?_
 refine ⟨by omega, fun v0 => ?_⟩
 intros
 (repeat apply za); refine pwn ?_; intros
 repeat apply za
 have hpw : ∀ (row : List Pr) (a : Int), row = qW x c a → ∀ p ∈ row, IntKind.i64.wrap (-p.s) = -p.s := by
  intro row a e p hp
  rw [e] at hp
  have h1 := (JD x c a).subset hp
  unfold qc at h1
  obtain ⟨b, _, rfl⟩ := List.mem_map.1 h1
  have := JE hx a b
  show IntKind.i64.wrap (-qN x a b) = -qN x a b
  exact wr _ (by omega) (by omega)
 refine ze (zq (fun s : Nat × Its Int × (Ob × Ob × Ob) × Nat => s.1 ≤ c.length ∧ s.2.1.Perm (zV 0 (qq x c s.1)) ∧ HX s.2.2.1 (nx + 2) hv mv s.2.1) (fun (k, its, o, v) => [(0, yld l), (2, .ip (zp x)), (4, L c), (5, .ptr (nx + 3) hv 0), (6, .sl (nx + 5) v 1 0 c.length), (21, L c), (22, I c.length), (23, I k)]) (fun (k, its, o, v) => [.dead, .dead, o.1, o.2.1, o.2.2, .cells v 312 (jV (qq x c k) c.length)]) (fun s => c.length - s.1) (0, [], o1, v0) [] ⟨by simp, by simp [VF, zV], m1⟩ (by simp) (by simp [VF, Zfm]) ?_)
 rintro ⟨k, its, o, v⟩ ⟨hk, hp, hm⟩
 simp only at hk hp hm ⊢
 (repeat apply za); refine pwn ?_; intros
 repeat apply za
 refine zl rfl (fun hq => ?_) (fun hq => ?_)
 ·simp at hq
  obtain ⟨a, tl, a1, a2, a3, e0⟩ := el1 rfl c k hq
  have hkl := VG x c k (by omega)
  have hks := Zfk (x := x) a3
  have hput := Zfo (qq x c k) c.length (qW x c a) (by omega)
  have hat := Zfp (qq x c k) c.length (qW x c a)
  have hrl := VH (qq x c k) c.length (by omega)
  have hrl2 := VH (qq x c k ++ [qW x c a]) c.length (by simp; omega)
  rw [hkl] at hput hat
  have hno : qp (k : Int) its = false := VI (k := k) (rows := qq x c k) (by rw [List.getD_eq_getElem?_getD, List.getElem?_eq_none (by omega)]; rfl) hp
  have hil : its.length ≤ k := by rw [hp.length_eq]; exact Nat.le_trans (YU _ _) (by omega)
  refine zd (za (ze ?_))
  repeat apply za
  refine pwN [] (jn2 e0 hq) ?_
  intros
  repeat apply za
  refine pwn ?_
  refine pwC [] (Zfi x c a hx (by omega) hcsm (hcsm a (List.mem_of_getElem? a1))) (jn3 hput hrl hq) ?_
  refine ⟨by omega, ?_⟩
  intros
  have hw := hpw (qW x c a) a rfl
  have hsn := Zfs (qq x c k)
  have hsn0 := Zfr (qq x c k)
  generalize hrow : qW x c a = row at *
  have hat2 : ∀ h, (jV (qq x c k ++ [row]) c.length)[k]'h = L row := fun h => (List.getElem?_eq_some_iff.1 hat).2
  repeat apply za
  refine pwN [] (jn3 hat2 hq hrl2) ?_
  intros
  cases row with
  | nil =>
   repeat apply za
   refine zj rfl ?_
   refine zd ?_
   (repeat apply za); refine pwn ?_; intros
   refine zk (k + 1, its, o, v) [] ⟨hq, ?_, hm⟩ (by simp; omega) (by simp [wrN k (by omega)]) rfl (by simp [hks])
   simp only [hks, hsn0]
   exact hp
  | cons p rl =>
   have hwp := hw p (by simp)
   repeat apply za
   refine zh (by simp) ?_
   repeat apply za
   refine zN [] (by rfl) (by rfl) fun K Gc Gh hK hGc hGh X hX0 hX => ?_
   simp -implicitDefEqProofs [hX0, hX, hat2, hq, hrl2, hwp]
   try clear hX0 hX X
   refine hGc _ _ _ _ _ _ _ fun hsuf => ((Vv (j := 2) hm rfl rfl rfl (k : Int) (-p.s) (by omega)).mono ?_).v
   rintro _ T ⟨rfl, o2, m2, rfl⟩
   refine ⟨_, _, rfl, ?_⟩
   rw [hno] at m2
   simp only [cond_false] at m2
   clear hGc hGh
   clear Gc Gh
   refine zI hsuf (D := []) (by rfl) fun Gc Gh hGc hGh X hX0 hX => ?_
   simp -implicitDefEqProofs [hX0, hX]
   clear hX0 hX X
   intros
   refine hK _ _ _ ?_
   clear hK hGc hGh
   clear K Gc Gh
   (repeat apply za); refine pwn ?_; intros
   refine zk (k + 1, x5 ((k : Int), -p.s) its, o2, v) [] ⟨hq, ?_, m2⟩ (by simp; omega) (by simp [wrN k (by omega)]) rfl (by simp [hks])
   simp only [hks]
   have := hsn p rl
   rw [hkl] at this
   exact (ZI _ _).trans ((hp.cons _).trans this.symm)
 ·simp at hq
  obtain rfl : k = c.length := by omega
  obtain ⟨hb1, hb2, hb3⟩ := ZeM (x := x) hz6
  rw [← Zfl] at hb1 hb2 hb3
  have hrl := VG x c c.length (Nat.le_refl _)
  have hrc := Zfn (qq x c c.length)
  rw [hrl] at hrc
  rw [hrc]
  generalize qq x c c.length = rows at *
  refine zm ?_
  repeat apply za
  refine ze (qV (σ := Nat × Store × List (List Pr) × Its Int × (Ob × Ob × Ob) × Nat) (fun s => s.1 ≤ (yG x c).length ∧ J s.1 s.2.1 ∧ Rows' c s.2.2.1 ∧ (∀ r ∈ s.2.2.1, Sd plt r) ∧ s.2.2.1.flatten.Perm ((yG x c).drop s.1) ∧ s.2.2.2.1.Perm (zV 0 s.2.2.1) ∧ HX s.2.2.2.2.1 (nx + 2) hv mv s.2.2.2.1) (fun s => [(0, yld l), (5, .ptr (nx + 3) hv 0), (6, .sl (nx + 5) s.2.2.2.2.2 1 0 c.length)]) (fun s => s.2.1) (fun s => [.dead, .dead, s.2.2.2.2.1.1, s.2.2.2.2.1.2.1, s.2.2.2.2.1.2.2, .cells s.2.2.2.2.2 312 (s.2.2.1.flatMap Enc.enc)]) (fun s => (yG x c).length - s.1) (zt (0, A0, rows, its, o, v) [] ⟨by simp, hA0, hb1, hb2, by simpa using hb3, hp, hm⟩ (by simp) rfl (by simp)) ?_)
  rintro ⟨i, A, rows, its, o, v⟩ ⟨hi, hJ, hr1, hr2, hr3, hp, hm⟩
  simp only at hi hJ hr1 hr2 hr3 hp hm ⊢
  have hrl : rows.length = c.length := hr1.len
  have hs := hm.srt
  repeat apply za
  refine ze ?_
  repeat apply za
  refine zN [] (by rfl) (by rfl) fun K Gc Gh hK hGc hGh X hX0 hX => ?_
  simp -implicitDefEqProofs [hX0, hX]
  try clear hX0 hX X
  refine hGc _ _ _ _ _ _ _ fun hsuf => ((Zeq (j := 2) hm rfl rfl rfl).mono ?_).v
  rintro _ T ⟨rfl, o2, m2, rfl⟩
  refine ⟨_, _, rfl, ?_⟩
  cases its with
  | nil =>
   clear hGc hGh
   clear Gc Gh
   refine zI hsuf (D := []) (by rfl) fun Gc Gh hGc hGh X hX0 hX => ?_
   simp -implicitDefEqProofs [hX0, hX, uc, zv, je]
   clear hX0 hX X
   intros
   refine hK _ _ _ ?_
   clear hK hGc hGh
   clear K Gc Gh
   have h0 : ∀ r ∈ rows, r = [] := by
    intro r hr
    cases r with
    | nil => rfl
    | cons p tl =>
     obtain ⟨j, hj⟩ := List.mem_iff_getElem?.1 hr
     have := (uO rows 0 ((j : Int), -p.s)).2 ⟨j, p, tl, hj, by rw [Nat.zero_add]⟩
     rw [List.nil_perm.1 hp] at this
     cases this
   have hfin := Zey hr3 hi h0
   repeat apply za
   refine pwN [(2, 61)] zn ?_
   intros
   repeat apply za
   refine zh rfl ?_
   repeat apply za
   exact zb (xB (hJd _ _ hJ) rfl (by simpa [hfin] using hJ))
  | cons it r =>
   obtain ⟨q, y, tl, e1, e2, e3, e4, e5, e6, e7⟩ := ZeN hz6 hr1 hr2 hr3 hs hp.symm
   subst e1
   have hql := (List.getElem?_eq_some_iff.1 e2).1
   have hql2 : q < c.length := by omega
   obtain ⟨y', tr, a1, a2, a3, e0⟩ := el1 rfl rows q hql
   rw [e2] at a1; cases a1
   have hil := (List.getElem?_eq_some_iff.1 e4).1
   have hyx : ((yG x c).map prV)[i]? = some (prV y) := by rw [List.getElem?_map, e4]; rfl
   clear hGc hGh
   clear Gc Gh
   refine zI hsuf (D := []) (by rfl) fun Gc Gh hGc hGh X hX0 hX => ?_
   simp -implicitDefEqProofs [hX0, hX, uc, zv, je]
   clear hX0 hX X
   intros
   refine hK _ _ _ ?_
   clear hK hGc hGh
   clear K Gc Gh
   repeat apply za
   refine zN [(2, 61)] (by rfl) (by rfl) fun K Gc Gh hK hGc hGh X hX0 hX => ?_
   simp -implicitDefEqProofs [hX0, hX, e0, hql2, hrl, undef]
   try clear hX0 hX X
   refine hGh _ _ _ _ _ fun hsuf => Zt rfl rfl rfl (hY _ _ _ _ hyx hJ) ?_
   rintro _ ⟨A', hJ', rfl⟩
   refine ⟨_, _, rfl, ?_⟩
   clear hGc hGh
   clear Gc Gh
   refine zI hsuf (D := [(2, 61)]) (by rfl) fun Gc Gh hGc hGh X hX0 hX => ?_
   simp -implicitDefEqProofs [hX0, hX]
   try clear hX0 hX X
   intros
   refine hK _ _ _ ?_
   clear hK hGc hGh
   clear K Gc Gh
   repeat apply za
   refine zj rfl ?_
   refine zd ?_
   have hsp := Zfq rows q tl hql
   have hrl2 : (rows.set q tl).length = c.length := by simp [hrl]
   have hql3 : q < (rows.set q tl).length := by omega
   obtain ⟨y', tr', a1, a2, a3, e0'⟩ := el1 rfl (rows.set q tl) q hql3
   rw [List.getElem?_set_self hql] at a1; cases a1
   have hno : qp (q : Int) r = false := VI (rows := rows.set q []) (by rw [List.getD_eq_getElem?_getD, List.getElem?_set_self hql]; rfl) e3
   have hlen : r.length ≤ 1048576 := by rw [e3.length_eq]; exact Nat.le_trans (YU _ _) (by simp; omega)
   have hperm := fun p tz => YT rows 0 q p tz hql
   repeat apply za
   refine pwN [] (jn4 e0 hql2 hrl hsp) ?_
   refine ⟨by omega, ?_⟩
   intros
   repeat apply za
   refine pwN [] (jn3 e0' hql2 hrl2) ?_
   intros
   cases tl with
   | nil =>
    repeat apply za
    refine zj rfl ?_
    refine zd ?_
    exact zk (i + 1, A', rows.set q [], r, o2, v) [] ⟨hil, hJ', e5, e6, e7, e3, m2⟩ (by simp; omega) (by simp) rfl (by simp)
   | cons z tz =>
    have hzm : z ∈ (rows.set q (z :: tz)).flatten := List.mem_flatten.2 ⟨z :: tz, List.mem_of_getElem? (List.getElem?_set_self hql), by simp⟩
    have hzp : z ∈ xo x c := (ue x c).subset (List.mem_of_mem_drop (e7.subset hzm))
    have hzs := (ZK.1 hzp).2.2.2
    have hwz : IntKind.i64.wrap (-z.s) = -z.s := by
     rw [hzs]
     have := JE hx z.a z.b
     exact wr _ (by omega) (by omega)
    repeat apply za
    refine zh (by simp) ?_
    repeat apply za
    refine zN [] (by rfl) (by rfl) fun K Gc Gh hK hGc hGh X hX0 hX => ?_
    simp -implicitDefEqProofs [hX0, hX, e0', hql2, hrl2, hwz]
    try clear hX0 hX X
    refine hGc _ _ _ _ _ _ _ fun hsuf => ((Vv (j := 2) m2 rfl rfl rfl (q : Int) (-z.s) (by simp; omega)).mono ?_).v
    rintro _ T ⟨rfl, o3, m3, rfl⟩
    refine ⟨_, _, rfl, ?_⟩
    simp only [List.tail_cons] at m3
    rw [hno] at m3
    simp only [cond_false] at m3
    clear hGc hGh
    clear Gc Gh
    refine zI hsuf (D := []) (by rfl) fun Gc Gh hGc hGh X hX0 hX => ?_
    simp -implicitDefEqProofs [hX0, hX]
    clear hX0 hX X
    intros
    refine hK _ _ _ ?_
    clear hK hGc hGh
    clear K Gc Gh
    refine zk (i + 1, A', rows.set q (z :: tz), x5 ((q : Int), -z.s) r, o3, v) [] ⟨hil, hJ', e5, e6, e7, ?_, m3⟩ (by simp; omega) (by simp) rfl (by simp)
    have := hperm z tz
    rw [Nat.zero_add] at this
    exact (ZI _ _).trans ((e3.cons _).trans this.symm)
open Go Hp
theorem Zfv {x : Inst} {c : List Int} (h : c.Nodup) (hc : c.length ≤ 1000) : (yG x c).length ≤ 1000000 := by
 rw [ZeB h]
 exact Nat.le_trans (Nat.mul_le_mul hc (Nat.sub_le _ _)) (Nat.mul_le_mul_left 1000 hc)
open Go Hp
open Go Hp
def vl (x : Inst) (ss : List Stop) (i : Nat) : Day × Int := ((yG x (ss.map (·.c))).take i).foldl (yE x) (ss.map fun s => [s], (ss.length : Int))
theorem Zfw (x : Inst) (ss : List Stop) : vl x ss 0 = (ss.map fun s => [s], (ss.length : Int)) := by simp [vl]
theorem Zfx {x : Inst} {ss : List Stop} {i : Nat} {p : Pr} (h : (yG x (ss.map (·.c)))[i]? = some p) : vl x ss (i + 1) = yE x (vl x ss i) p := by
 unfold vl
 obtain ⟨h1, e⟩ := List.getElem?_eq_some_iff.1 h
 rw [List.take_succ_eq_append_getElem h1, e, List.foldl_append]; rfl
theorem Zfy (x : Inst) (ss : List Stop) : vl x ss (yG x (ss.map (·.c))).length = JF x ss := by simp [vl, JF]
theorem Zfz (x : Inst) (T : Day) (num : Int) (p : Pr) : num - 1 ≤ (yE x (T, num) p).2 ∧ (yE x (T, num) p).2 ≤ num := by
 unfold yE uP
 cases yh x (T, num).2 p (xp (T, num).1 p.a) (xp (T, num).1 p.b) ((T, num).1.getD (xp (T, num).1 p.a) []) ((T, num).1.getD (xp (T, num).1 p.b) []) <;> simp <;> omega
set_option maxRecDepth 20000 in
set_option maxHeartbeats 1600000 in
theorem ZfA (x : Inst) (ss : List Stop) (hx : yq x) (hxc : x.cust.length ≤ 1048576) (hss : ss.length ≤ 1000) (hs : ∀ s ∈ ss, small s.c) (hnd : (ss.map (·.c)).Nodup) : Pure Tryz.prog 218 [.agg (zp x), L ss] (.agg [L (ji x ss)]) := by
 have hpl := Zfv (x := x) hnd (by simpa using hss)
 have hkey : KeyOk (.int .i64) yu := vZ .i64
 have hdist : ∀ k s, ss[k]? = some s → s.c ∉ (ss.take k).map (·.c) := by
  intro k s h hm
  obtain ⟨s', h1, h2⟩ := List.mem_map.1 hm
  obtain ⟨j, hj⟩ := List.mem_iff_getElem?.1 h1
  rw [List.getElem?_take] at hj
  split at hj
  ·rename_i hjk
   have e1 : (ss.map (·.c))[j]? = some s.c := by rw [List.getElem?_map, hj, ← h2]; rfl
   have e2 : (ss.map (·.c))[k]? = some s.c := by rw [List.getElem?_map, h]; rfl
   obtain ⟨g1, g2⟩ := List.getElem?_eq_some_iff.1 e1
   obtain ⟨g3, g4⟩ := List.getElem?_eq_some_iff.1 e2
   exact List.pairwise_iff_getElem.1 hnd j k g1 g3 hjk (g2.trans g4.symm)
  ·cases hj
 refine pwe Tryz.func218 Tryz.ntmps218 Tryz.results218 fun S nx hd => ?_
 repeat apply za
 refine pwn ?_
 intro v0 v1
 repeat apply za
 refine pwn ?_
 intro v2 v3 v4
 refine qa 3 6 46 1 rfl rfl fun v5 => ?_
 (repeat apply za); refine pwn ?_; intros
 repeat apply za
 refine ze (zq (fun s : Nat × Day × List (Value × PV) × (Int → Option Int) × Nat => s.1 ≤ ss.length ∧ s.2.1 = (ss.take s.1).map (fun s => [s]) ∧ MapIs yu I s.2.2.1 s.2.2.2.1 ∧ JI (ss.take s.1) s.2.1 s.2.2.2.1) (fun (k, T, es, g, v5) => [(1, L ss), (2, .ptr nx v0 0), (4, .ptr (nx + 1) v1 0), (5, .ptr (nx + 4) v4 0), (18, L ss), (19, I ss.length), (20, I k)])
  (fun (k, T, es, g, v5) => [.cells v0 25 (zp x), .cells v1 66 [.sc (.slice none 0 0)], .map v2 es, .cells v3 290 (uQ x (nx + 5) v5 k ss.length (nx + 2) v2), .cells v4 287 [.ptr (nx + 3) v3 0], .cells v5 46 (T.flatMap Enc.enc)]) (fun s => ss.length - s.1) (0, [], [], fun _ => none, v5) [] ⟨by simp, by simp, Vl _ _, by simpa using JI.nil⟩ (by simp) (by simp) ?_)
 rintro ⟨k, T, es, g, v5⟩ ⟨hk, hT, hm, hI⟩
 simp only at hk hT hm hI ⊢
 have hTl : T.length = k := by rw [hT]; simp; omega
 (repeat apply za); refine pwn ?_; intros
 repeat apply za
 refine zl rfl (fun hq => ?_) (fun hq => ?_)
 ·simp at hq
  obtain ⟨s, tl, a1, a2, a3, e1, e0⟩ := el 2 rfl ss k hq
  obtain ⟨rs, f1, _, _, f4, _⟩ := hm.find hkey s.c
  have hnew := f4 (k : Int)
  have hIn := hI.snoc s (hdist k s a1)
  have hkl : (ss.take k).length = k := by simp; omega
  rw [hkl, ← a3] at hIn
  have hTs : T ++ [[s]] = (ss.take (k + 1)).map fun s => [s] := by rw [a3, hT]; simp
  have htf : (T.flatMap Enc.enc).take k = T.flatMap Enc.enc := List.take_of_length_le (by rw [qm]; omega)
  have htl : (T.flatMap Enc.enc).length = k := by rw [qm, hTl]
  refine zd (za (ze ?_))
  repeat apply za
  refine pwN [] (jn3 e1 e0 hq) ?_
  intro v6
  repeat apply za
  refine pwY (some [nx + 4, nx + 6]) (Row.pures [0, 1, 2, 3, 5, 6, 7] (.alt 4 (.alt 8 (Row.pures [9, 10] (.alt 11 (.done) .stop)) .stop) .stop)) mixed (jn2 htf htl) ?_
  refine ⟨⟨by omega, by omega⟩, ?_⟩
  intros
  repeat apply za
  refine xV (some [nx + 3, nx + 4, nx + 6]) (Row.pures [0, 1, 2, 3, 4, 5, 6] (.alt 7 (.done) .stop)) mixed (by rfl) (by rfl) (by rfl) fun K Gp Gc Gh hK hGp hGc hGh X hX0 hX1 hX2 hX => ?_
  simp -implicitDefEqProofs [hX0, hX1, hX2, hX]
  try clear hX0 hX1 hX2 hX X
  refine hGh _ _ _ _ _ (by rfl) (Zq (.inl rfl) Tryz.underlying288 Tryz.underlying3 rfl rfl rfl (by simp) f1 ?_)
  rw [qg _ (by omega) (by simp), show nx + 2 - nx = 2 from by omega]
  refine ⟨by simp [yf], ?_⟩
  clear hGp hGc hGh
  clear Gp Gc Gh
  refine ju fun Gp Gc Gh hGp hGc hGh X hX0 hX1 hX2 hX => ?_
  simp -implicitDefEqProofs [hX0, hX1, hX2, hX]
  try clear hX0 hX1 hX2 hX X
  refine hK _ _ _ ?_
  clear hK hGp hGc hGh
  clear K Gp Gc Gh
  (repeat apply za); refine pwn ?_; intros
  exact zk (k + 1, T ++ [[s]], y9 (yu s.c) (I k) es rs, yD g s.c (some (k : Int)), v5 + 1) [_] ⟨hq, hTs, hnew, hIn⟩ (by simp; omega) (by simp [wrN k (by omega)]) rfl (by simp; rfl)
 ·simp at hq
  obtain rfl : k = ss.length := by omega
  rw [List.take_length] at hT hI
  refine zm ?_
  repeat apply za
  refine pwn ?_
  refine pwc (Zft x ss) ?_
  intros
  repeat apply za
  refine ze (Zv (xs := (yG x (ss.map (·.c))).map prV) (σ := Day × Int × List (Value × PV) × (Int → Option Int)) (fun i s => (s.1, s.2.1) = vl x ss i ∧ i ≤ (yG x (ss.map (·.c))).length ∧ MapIs yu I s.2.2.1 s.2.2.2 ∧ JI ss s.1 s.2.2.2 ∧ (ss.length : Int) - i ≤ s.2.1 ∧ s.2.1 ≤ ss.length) [(4, .ptr (nx + 1) v1 0), (5, .ptr (nx + 4) v4 0)] (fun _ => S)
   (fun (T, num, es, g) => [.cells v0 25 (zp x), .cells v1 66 [.sc (.slice none 0 0)], .map v2 es, .cells v3 290 (uQ x (nx + 5) v5 ss.length num (nx + 2) v2), .cells v4 287 [.ptr (nx + 3) v3 0], .cells v5 46 (T.flatMap Enc.enc)]) (T, (ss.length : Int), es, g)
   (Zfu x ss hx (by omega) hs hnd) rfl (by intro x hx; obtain ⟨y, _, rfl⟩ := List.mem_map.1 hx; rfl) (by decide) (by simp) ⟨by rw [Zfw, hT], by simp, hm, hI, by simp, by simp⟩ rfl (by simp) (by simp) ?_ ?_)
  ·clear hm hI hT hTl
   rintro l i ⟨T, num, es, g⟩ more y ⟨hst, hi, hm, hI, hn1, hn2⟩ hy
   simp only at hst hi hm hI hn1 hn2 ⊢
   rw [List.getElem?_map] at hy
   obtain ⟨p, hp, rfl⟩ := Option.map_eq_some_iff.1 hy
   obtain ⟨hil, hpi⟩ := List.getElem?_eq_some_iff.1 hp
   have hmem := ZK.1 ((ue x _).subset (List.mem_of_getElem? hp))
   have hsucc := Zfx hp
   rw [← hst] at hsucc
   obtain ⟨nb1, nb2⟩ := Zfz x T num p
   repeat apply za
   refine zN [] (by rfl) (by rfl) fun K Gc Gh hK hGc hGh X hX0 hX => ?_
   simp -implicitDefEqProofs [hX0, hX, prV]
   try clear hX0 hX X
   intro v6
   refine hK _ _ _ ?_
   clear hK hGc hGh
   clear K Gc Gh
   refine ze ?_
   repeat apply za
   refine zN [] (by rfl) (by rfl) fun K Gc Gh hK hGc hGh X hX0 hX => ?_
   simp -implicitDefEqProofs [hX0, hX]
   try clear hX0 hX X
   refine hGc _ _ _ _ _ _ _ fun hsuf => ((ZeW x ss T g num es hxc hss (by omega) hI hm (jid := nx + 3) (tid := nx + 5) (mid := nx + 2) (by rw [yP]; rfl) (by rw [yP]; rfl) (by rw [yP]; rfl) (by omega) (by omega) (by omega) p hmem.1 hmem.2.1).mono ?_).v
   rintro _ _ ⟨es2, g2, m2, i2, rfl⟩
   refine ⟨_, _, (by rw [qg _ (by omega) (by simp), qg _ (by omega) (by simp), qg _ (by omega) (by simp)]), ?_⟩
   clear hGc hGh
   clear Gc Gh
   refine zI hsuf (D := []) (by rfl) fun Gc Gh hGc hGh X hX0 hX => ?_
   simp -implicitDefEqProofs [hX0, hX, (show nx + 3 - nx = 3 from by omega), (show nx + 5 - nx = 5 from by omega), (show nx + 2 - nx = 2 from by omega)]
   clear hX0 hX X
   intros
   refine hK _ _ _ ?_
   clear hK hGc hGh
   clear K Gc Gh
   simp only [qi]
   exact jG ((yE x (T, num) p).1, (yE x (T, num) p).2, es2, g2) [_] ⟨hsucc.symm, by omega, m2, i2, by simp only; omega, by simp only; omega⟩ rfl (by simp; rfl)
  ·clear hm hI hT hTl
   rintro ⟨T, num, es, g⟩ ⟨hst, -, hm, hI, -, -⟩
   simp only [List.length_map] at hst hI ⊢
   rw [Zfy] at hst
   have hTl := hI.len
   have hjp : ji x ss = T.filter fun t => !t.isEmpty := by unfold ji; rw [← hst]
   rw [hjp]
   repeat apply za
   refine pwn ?_
   intro v6
   refine qa 6 0 72 1 rfl rfl fun v7 => ?_
   (repeat apply za); refine pwn ?_; intros
   repeat apply za
   refine ze (zq (fun s : Nat × Day × Nat => s.1 ≤ T.length ∧ s.2.1 = (T.take s.1).filter fun t => !t.isEmpty) (fun (k, out, v7) => [(4, .ptr (nx + 1) v1 0), (9, .ptr (nx + 6) v6 0), (54, .sl (nx + 5) v5 1 0 ss.length), (55, I ss.length), (56, I k)]) (fun (k, out, v7) => [.cells v0 25 (zp x), .cells v1 66 [.sc (.slice none 0 0)], .map v2 es, .cells v3 290 (uQ x (nx + 5) v5 ss.length num (nx + 2) v2), .cells v4 287 [.ptr (nx + 3) v3 0], .cells v5 46 (T.flatMap Enc.enc), .cells v6 66 [.sl (nx + 7) v7 1 0 out.length], .cells v7 72 (out.flatMap Enc.enc)]) (fun s => T.length - s.1) (0, [], v7) [] ⟨by simp, by simp⟩ (by simp) (by simp) ?_)
   rintro ⟨k, out, v7⟩ ⟨hk, ho⟩
   simp only at hk ho ⊢
   have hol : out.length ≤ k := by rw [ho]; exact Nat.le_trans (List.length_filter_le _ _) (by simp; omega)
   (repeat apply za); refine pwn ?_; intros
   repeat apply za
   refine zl rfl (fun hq => ?_) (fun hq => ?_)
   ·simp at hq
    obtain ⟨t, tl, a1, a2, a3, e0⟩ := el1 rfl T k (by omega)
    have hfs : (T.take (k + 1)).filter (fun t => !t.isEmpty) = out ++ (if t = [] then [] else [t]) := by
     rw [a3, List.filter_append, ← ho]
     cases t <;> simp
    refine zd (za (ze ?_))
    repeat apply za
    refine pwN [] (jn3 e0 hq hTl) ?_
    intros
    (repeat apply za); refine pwn ?_; intros
    cases t with
    | nil =>
     rw [if_pos rfl, List.append_nil] at hfs
     repeat apply za
     refine zj (by simp) ?_
     refine zd ?_
     (repeat apply za); refine pwn ?_; intros
     exact zk (k + 1, out, v7) [] ⟨by omega, hfs.symm⟩ (by simp; omega) (by simp [wrN k (by omega)]) rfl (by simp)
    | cons s t =>
     rw [if_neg (by simp)] at hfs
     repeat apply za
     refine zh (by simp) ?_
     repeat apply za
     refine pwn ?_
     refine ⟨by omega, ?_⟩
     intros
     (repeat apply za); refine pwn ?_; intros
     exact zk (k + 1, out ++ [s :: t], v7 + 1) [] ⟨by omega, hfs.symm⟩ (by simp; omega) (by simp [wrN k (by omega)]) rfl (by simp)
   ·simp at hq
    obtain rfl : k = T.length := by omega
    rw [List.take_length] at ho
    refine zm ?_
    refine zC 7 rfl ?_
    (repeat apply za); refine pwn ?_; intros
    repeat apply za
    exact zb (zg hd (by simp; rfl) (by simp [zi, ho]))
open Go Hp
abbrev zS : PV := .sc (.slice none 0 0)
open Go Hp
def uf (pl : PV) : Prop := pl = zS ∨ ∃ n cs, pl = .lst n cs
theorem ug (l : List Stop) : uf (L l) := .inr ⟨_, _, rfl⟩
abbrev uR (x : Inst) (b : Int) : PV := .fn (.func 214) [] [.ip (zp x), .ip [I b]]
abbrev fsL (x : Inst) (pl : PV) (b : Int) : List PV := [.fn (.func 215) [] [.ip [pl]], .fn (.func 217) [] [.ip [uR x b], .ip (zp x), .ip [pl]], .fn (.func 219) [] [.ip [uR x b], .ip [pl]], .fn (.func 220) [] [.ip (zp x), .ip [pl], .ip [uR x b]]]
set_option maxRecDepth 20000 in
theorem ZfB (x : Inst) (pl : PV) (b : Int) (hp : uf pl) : Pure Tryz.prog 180 [.agg (zp x), pl, I b] (.fn (.func 222) [] [.ip [.lst 4 (fsL x pl b)]]) := by
 rcases hp with rfl | ⟨n, cs, rfl⟩
 all_goals
  refine pwe Tryz.func180 Tryz.ntmps180 Tryz.results180 fun S nx hd => ?_
  repeat apply za
  refine pwn ?_
  intro v0 v1 v2
  refine xh 0 rfl ?_
  refine xh 1 rfl ?_
  refine xh 2 rfl ?_
  repeat apply za
  refine pwn ?_
  intro v3
  refine xh 3 rfl ?_
  repeat apply za
  refine pwn ?_
  intro v4
  refine xh 4 rfl ?_
  (repeat apply za); refine pwn ?_; intros
  repeat apply za
  exact zb (zg hd (by simp; rfl) rfl)
set_option maxRecDepth 20000 in
theorem ZfC (pl : PV) (d : Day) (hp : uf pl) (hA : Pure Tryz.prog 216 [pl] (.agg [L d])) : Pure Tryz.prog 215 [.ip [pl]] (.tup [.agg [L d], B true]) := by
 rcases hp with rfl | ⟨n, cs, rfl⟩
 all_goals
  refine pwe Tryz.func215 Tryz.ntmps215 Tryz.results215 fun S nx hd => ?_
  repeat apply za
  refine pwn ?_
  intro v0
  repeat apply za
  refine pwn ?_
  refine pwc hA ?_
  intros
  repeat apply za
  exact zb (zg hd (by simp; rfl) rfl)
set_option maxRecDepth 20000 in
theorem JK (x : Inst) (b : Int) (d e : Day) (n : Int) (hI : Pure Tryz.prog 76 [.agg (zp x), .agg [L d], I b] (.tup [.agg [L e], I n])) : Pure Tryz.prog 214 [.agg [L d], .ip (zp x), .ip [I b]] (.agg [L e]) := by
 refine pwe Tryz.func214 Tryz.ntmps214 Tryz.results214 fun S nx hd => ?_
 repeat apply za
 refine pwn ?_
 intro v0 v1
 repeat apply za
 refine pwn ?_
 refine pwc hI ?_
 intros
 (repeat apply za); refine pwn ?_; intros
 repeat apply za
 exact zb (zg hd (by simp; rfl) rfl)
set_option maxRecDepth 20000 in
theorem ZfD (x : Inst) (pl : PV) (b : Int) (d e : Day) (n : Int) (hp : uf pl) (hJ : Pure Tryz.prog 218 [.agg (zp x), pl] (.agg [L d])) (hI : Pure Tryz.prog 76 [.agg (zp x), .agg [L d], I b] (.tup [.agg [L e], I n])) : Pure Tryz.prog 217 [.ip [uR x b], .ip (zp x), .ip [pl]] (.tup [.agg [L e], B true]) := by
 have hF := JK x b d e n hI
 rcases hp with rfl | ⟨n, cs, rfl⟩
 all_goals
  refine pwe Tryz.func217 Tryz.ntmps217 Tryz.results217 fun S nx hd => ?_
  repeat apply za
  refine pwn ?_
  intro v0
  repeat apply za
  refine pwY (some []) (Row.pures [0, 1, 2, 3, 4] (.alt 5 (Row.pures [6] .done) .stop)) mixed trivial ?_
  refine pwP (hJ) trivial ?_
  refine pwP (hF) trivial ?_
  intros
  repeat apply za
  exact zb (zg hd (by simp; rfl) rfl)
set_option maxRecDepth 20000 in
theorem ZfE (x : Inst) (pl : PV) (b : Int) (d e : Day) (n : Int) (hp : uf pl) (hA : Pure Tryz.prog 216 [pl] (.agg [L d])) (hI : Pure Tryz.prog 76 [.agg (zp x), .agg [L d], I b] (.tup [.agg [L e], I n])) : Pure Tryz.prog 219 [.ip [uR x b], .ip [pl]] (.tup [.agg [L e], B true]) := by
 have hF := JK x b d e n hI
 rcases hp with rfl | ⟨n, cs, rfl⟩
 all_goals
  refine pwe Tryz.func219 Tryz.ntmps219 Tryz.results219 fun S nx hd => ?_
  repeat apply za
  refine pwn ?_
  intro v0
  repeat apply za
  refine pwY (some []) (Row.pures [0, 1, 2, 3] (.alt 4 (Row.pures [5] .done) .stop)) mixed trivial ?_
  refine pwP (hA) trivial ?_
  refine pwP (hF) trivial ?_
  intros
  repeat apply za
  exact zb (zg hd (by simp; rfl) rfl)
set_option maxRecDepth 20000 in
theorem VJ (x : Inst) (pl : PV) (b : Int) (d e : Day) (ok : Bool) (n : Int) (hp : uf pl) (hR : Pure Tryz.prog 221 [.agg (zp x), pl] (.tup [.agg [L d], B ok])) (hI : ok = true → Pure Tryz.prog 76 [.agg (zp x), .agg [L d], I b] (.tup [.agg [L e], I n])) :
  Pure Tryz.prog 220 [.ip (zp x), .ip [pl], .ip [uR x b]] (.tup [.agg [bif ok then L e else zS], B ok]) := by
 rcases hp with rfl | ⟨n, cs, rfl⟩
 all_goals
  cases ok with
  | false =>
   refine pwe Tryz.func220 Tryz.ntmps220 Tryz.results220 fun S nx hd => ?_
   repeat apply za
   refine pwn ?_
   intro v0
   repeat apply za
   refine pwn ?_
   refine pwc hR ?_
   intro v1
   intros
   (repeat apply za); refine pwn ?_; intros
   repeat apply za
   refine zh rfl ?_
   (repeat apply za); refine pwn ?_; intros
   repeat apply za
   exact zb (zg hd (by simp; rfl) rfl)
  | true =>
   have hF := JK x b d e _ (hI rfl)
   refine pwe Tryz.func220 Tryz.ntmps220 Tryz.results220 fun S nx hd => ?_
   repeat apply za
   refine pwn ?_
   intro v0
   repeat apply za
   refine pwn ?_
   refine pwc hR ?_
   intro v1
   intros
   (repeat apply za); refine pwn ?_; intros
   repeat apply za
   refine zj rfl ?_
   refine zd ?_
   repeat apply za
   refine pwn ?_
   refine pwc hF ?_
   intros
   repeat apply za
   exact zb (zg hd (by simp; rfl) rfl)
set_option maxRecDepth 20000 in
theorem ZfF (fs : List PV) (rs : List (Option Day)) (hl : rs.length = fs.length) (hn : fs.length ≤ 1000)
  (h : ∀ (k : Nat) f, fs[k]? = some f → ∃ fk caps p, f = .fn (.func fk) [] caps ∧ Pure Tryz.prog fk caps (.tup [.agg [p], B (rs.getD k none).isSome]) ∧ ∀ d, rs.getD k none = some d → p = L d) :
  vV Tryz.prog 222 [.ip [.lst fs.length fs]] ((rs.filterMap id).map fun d => [.agg [L d]]) := by
 refine YG Tryz.func222 (by rfl) rfl Tryz.ntmps222 (congrArg Array.toList Tryz.results222) (by simp) fun l V keep nx J hJd hY A0 hA0 => ?_
 (repeat apply za); refine pwn ?_; intros
 repeat apply za
 refine ze (qV (σ := Nat × Store) (fun s => s.1 ≤ fs.length ∧ J ((rs.take s.1).filterMap id).length s.2) (fun s => [(0, yld l), (7, .lst fs.length fs), (8, I fs.length), (9, I s.1)]) (fun s => s.2) (fun s => []) (fun s => fs.length - s.1) (zt (0, A0) [] (by simp [hA0]) (by simp) rfl (by simp)) ?_)
 rintro ⟨k, A⟩ ⟨hk, hJ⟩
 simp only at hk hJ ⊢
 (repeat apply za); refine pwn ?_; intros
 repeat apply za
 refine zl rfl (fun hc => ?_) (fun hc => ?_)
 ·simp at hc
  have e0 : fs.drop k = fs[k] :: fs.drop (k + 1) := List.drop_eq_getElem_cons hc
  obtain ⟨fk, caps, p, hf, hP, hd⟩ := h k fs[k] (List.getElem?_eq_getElem hc)
  rw [hf] at e0
  have hkr : k < rs.length := by omega
  have htk : rs.take (k + 1) = rs.take k ++ [rs[k]] := List.take_succ_eq_append_getElem hkr
  have hg : rs.getD k none = rs[k] := by rw [List.getD_eq_getElem?_getD, List.getElem?_eq_getElem hkr]; rfl
  rw [hg] at hP hd
  refine zd (za (ze ?_))
  repeat apply za
  refine pwN [] (jn2 e0 hc) ?_
  intros
  cases hr : rs[k] with
  | none =>
   rw [hr] at hP htk
   simp only [Option.isSome_none] at hP
   have hlen : ((rs.take (k + 1)).filterMap id).length = ((rs.take k).filterMap id).length := by rw [htk]; simp
   repeat apply za
   refine pwn ?_
   refine pwc hP ?_
   intro v0
   intros
   repeat apply za
   refine pwN [(1, 19)] zn ?_
   intros
   repeat apply za
   refine zj rfl ?_
   refine zd ?_
   (repeat apply za); refine pwn ?_; intros
   exact zk (k + 1, A) [_] ⟨hc, by rw [hlen]; exact hJ⟩ (by simp; omega) (by simp [wrN k (by omega)]) rfl (by simp; rfl)
  | some d =>
   obtain rfl := hd d hr
   rw [hr] at hP htk
   simp only [Option.isSome_some] at hP
   have hlen : ((rs.take (k + 1)).filterMap id).length = ((rs.take k).filterMap id).length + 1 := by rw [htk]; simp
   have hx : ((rs.filterMap id).map fun d => [PV.agg [L d]])[((rs.take k).filterMap id).length]? = some [PV.agg [L d]] := by
    have e1 : rs.filterMap id = (rs.take k).filterMap id ++ (d :: (rs.drop (k + 1)).filterMap id) := by
     conv => lhs; rw [← List.take_append_drop k rs, List.drop_eq_getElem_cons hkr, hr]
     simp
    rw [List.getElem?_map, e1, List.getElem?_append_right (Nat.le_refl _), Nat.sub_self]
    rfl
   repeat apply za
   refine pwn ?_
   refine pwc hP ?_
   intro v0
   intros
   repeat apply za
   refine zN [(1, 19)] (by rfl) (by rfl) fun K Gc Gh hK hGc hGh X hX0 hX => ?_
   simp -implicitDefEqProofs [hX0, hX]
   try clear hX0 hX X
   refine hGh _ _ _ _ _ fun hsuf => Zt rfl rfl rfl (hY _ _ _ _ hx hJ) ?_
   rintro _ ⟨A', hJ', rfl⟩
   refine ⟨_, _, rfl, ?_⟩
   clear hGc hGh
   clear Gc Gh
   refine zI hsuf (D := [(1, 19)]) (by rfl) fun Gc Gh hGc hGh X hX0 hX => ?_
   simp -implicitDefEqProofs [hX0, hX]
   try clear hX0 hX X
   intros
   refine hK _ _ _ ?_
   clear hK hGc hGh
   clear K Gc Gh
   repeat apply za
   refine zj rfl ?_
   refine zd ?_
   (repeat apply za); refine pwn ?_; intros
   exact zk (k + 1, A') [_] ⟨hc, by rw [hlen]; exact hJ'⟩ (by simp; omega) (by simp [wrN k (by omega)]) rfl (by simp; rfl)
 ·simp at hc
  obtain rfl : k = fs.length := by omega
  rw [← hl, List.take_length] at hJ
  refine zm (xB (hJd _ _ hJ) rfl ?_)
  simpa using hJ
def qz (x : Inst) (st : Day × Int × Bool) (d : Day) : Day × Int × Bool := if zH x d = 0 then (if st.2.2 = false ∨ W (zA x d) < st.2.1 then (d, W (zA x d), true) else st) else st
def jW (x : Inst) (ds : List Day) : Day × Int × Bool := ds.foldl (qz x) ([], 0, false)
open Go Hp
theorem ZfG {K : (Nat → PV) → Store → Prop} {Q : Exit → (Nat → PV) → Store → Prop} {i : Nat} {F : Nat → PV} {S : Store} (h : Q (.exit i) F S) : wA K Q (.exit i) F S := h
theorem ZfH {Q : Exit → (Nat → PV) → Store → Prop} {i : Nat} {F : Nat → PV} {S : Store} (h : Q .normal F S) : qi i Q (.exit i) F S := by simp [qi, h]
def qO (x : Inst) (e : Int) (ds : List Day) : Day × Int := if e = 0 then (bif (jW x ds).2.2 then ((jW x ds).1, 0) else ([], 14)) else ([], e)
set_option maxRecDepth 20000 in
set_option maxHeartbeats 800000 in
theorem VK (x : Inst) (pl : PV) (b e : Int) (ds : List Day) (hp : uf pl) (hx : x.cust.length ≤ 1048576) (hF : Pure Tryz.prog 179 [.agg (zp x), pl] (I e))
  (hit : e = 0 → vV Tryz.prog 222 [.ip [.lst 4 (fsL x pl b)]] (ds.map fun d => [.agg [L d]])) (hds : e = 0 → ∀ d ∈ ds, DayOk d ∧ d.flatten.length ≤ 1048576) :
  Pure Tryz.prog 130 [.agg (zp x), pl, I b] (.tup [.agg [L (qO x e ds).1], I (qO x e ds).2]) := by
 have hT := ZfB x pl b hp
 refine pwe Tryz.func130 Tryz.ntmps130 Tryz.results130 fun S nx hd => ?_
 repeat apply za
 refine pwn ?_
 intro v0 v1
 repeat apply za
 refine pwn ?_
 refine pwc hF ?_
 intros
 by_cases he : e = 0
 case neg =>
  (repeat apply za); refine pwn ?_; intros
  repeat apply za
  refine zh (by simp [he]) ?_
  (repeat apply za); refine pwn ?_; intros
  refine vU 1 0 rfl rfl ?_
  repeat apply za
  exact zb (zg hd (by simp; rfl) (by simp [qO, he, zi]))
 subst he
 have hit := hit rfl
 have hds := hds rfl
 (repeat apply za); refine pwn ?_; intros
 repeat apply za
 refine zj (by simp) ?_
 refine zd ?_
 repeat apply za
 refine pwn ?_
 intro v2 v3 v4
 refine vU 2 0 rfl rfl ?_
 repeat apply za
 refine pwn ?_
 refine pwc hT ?_
 intros
 repeat apply za
 refine ze (Zv (xs := ds.map fun d => [PV.agg [L d]]) (σ := Day × Int × Bool) (fun i s => s = (ds.take i).foldl (qz x) ([], 0, false) ∧ i ≤ ds.length) [(3, .ptr nx v0 0), (6, .ptr (nx + 1) v1 0), (7, I 0), (9, .ptr (nx + 2) v2 0), (10, .ptr (nx + 3) v3 0), (11, .ptr (nx + 4) v4 0)] (fun _ => S)
  (fun (best, least, found) => [.cells v0 25 (zp x), .cells v1 66 [zS], .cells v2 66 [L best], .cells v3 3 [I least], .cells v4 4 [B found]]) ([], 0, false)
  hit rfl (by intro x hx; obtain ⟨y, _, rfl⟩ := List.mem_map.1 hx; rfl) (by decide) (by simp) ⟨by simp, by simp⟩ rfl (by simp) (by simp) ?_ ?_)
 ·rintro l i ⟨best, least, found⟩ more y ⟨hst, hi⟩ hy
  simp only at hst hi ⊢
  rw [List.getElem?_map] at hy
  obtain ⟨d, hd', rfl⟩ := Option.map_eq_some_iff.1 hy
  obtain ⟨hil, hdi⟩ := List.getElem?_eq_some_iff.1 hd'
  obtain ⟨hdo, hdf⟩ := hds d (List.mem_of_getElem? hd')
  have hday := ZdS x d hx hdo.1 hdo.2 hdf
  have hcost := Jl x d hdo
  have hsucc : (ds.take (i + 1)).foldl (qz x) ([], 0, false) = qz x (best, least, found) d := by
   rw [List.take_succ_eq_append_getElem hil, hdi, List.foldl_append, ← hst]; rfl
  unfold qz at hsucc
  simp only at hsucc
  repeat apply za
  refine pwn ?_
  intro v5
  refine ze ?_
  repeat apply za
  refine pwn ?_
  refine pwc hday ?_
  intros
  by_cases h1 : zH x d = 0
  ·rw [if_pos h1] at hsucc
   repeat apply za
   refine zj (by simp [h1]) ?_
   refine zd ?_
   repeat apply za
   refine pwn ?_
   refine pwc hcost ?_
   intros
   generalize W (zA x d) = c at *
   cases found with
   | false =>
    rw [if_pos (.inl rfl)] at hsucc
    repeat apply za
    refine pwN [(2, 36)] zn ?_
    intros
    repeat apply za
    refine zh rfl ?_
    (repeat apply za); refine pwn ?_; intros
    simp only [qi]
    exact jG (d, c, true) [_] ⟨hsucc.symm, by omega⟩ rfl (by simp; rfl)
   | true =>
    by_cases h2 : c < least
    ·rw [if_pos (.inr h2)] at hsucc
     repeat apply za
     refine pwN [(2, 36)] (jn2 h2 zn) ?_
     intros
     repeat apply za
     refine zh rfl ?_
     (repeat apply za); refine pwn ?_; intros
     simp only [qi]
     exact jG (d, c, true) [_] ⟨hsucc.symm, by omega⟩ rfl (by simp; rfl)
    ·rw [if_neg (by simp [h2])] at hsucc
     repeat apply za
     refine pwN [(2, 36)] (jn2 h2 zn) ?_
     intros
     repeat apply za
     refine zj rfl ?_
     refine zd ?_
     simp only [qi]
     exact jG (best, least, true) [_] ⟨hsucc.symm, by omega⟩ rfl (by simp; rfl)
  ·rw [if_neg h1] at hsucc
   repeat apply za
   refine zh (by simp [h1]) ?_
   refine zm ?_
   refine ZfG (ZfH ?_)
   exact jG (best, least, found) [_] ⟨hsucc.symm, by omega⟩ rfl (by simp; rfl)
 ·rintro ⟨best, least, found⟩ ⟨hst, -⟩
  simp only [List.length_map, List.take_length] at hst ⊢
  have hz : jW x ds = (best, least, found) := hst.symm
  cases found with
  | false =>
   (repeat apply za); refine pwn ?_; intros
   repeat apply za
   refine zh rfl ?_
   (repeat apply za); refine pwn ?_; intros
   refine vU 1 0 rfl rfl ?_
   repeat apply za
   exact zb (zg hd (by simp; rfl) (by simp [qO, hz, zi]))
  | true =>
   (repeat apply za); refine pwn ?_; intros
   repeat apply za
   refine zj rfl ?_
   refine zd ?_
   (repeat apply za); refine pwn ?_; intros
   repeat apply za
   exact zb (zg hd (by simp; rfl) (by simp [qO, hz, zi]))
open Go Hp
set_option maxRecDepth 20000 in
theorem VL (lk : List PV) (s : Stop) (hl : lk.length = 13) : Pure Tryz.prog 108 [.agg lk, .agg [I s.c, I s.q]] (.fn (.func 147) [] [.ip [I s.c, I s.q], .ip lk]) := by
 refine pwe Tryz.func108 Tryz.ntmps108 Tryz.results108 fun S nx hd => ?_
 repeat apply za
 refine pwN [] hl ?_
 intro v0 v1
 (repeat apply za); refine pwn ?_; intros
 refine xh 0 rfl ?_
 refine xh 1 rfl ?_
 repeat apply za
 exact zb (zg hd (by simp; rfl) rfl)
open Go Go.Lib Go.Proofs
theorem uh : ElemOk Tryz.prog 46 50 (.agg #[.int .i64 0, .int .i64 0]) 16 :=
 ⟨Tryz.underlying46, by simp, by simp, by simp, by simp, by omega⟩
set_option maxHeartbeats 4000000 in
set_option maxRecDepth 100000 in
theorem VM (a : Addr) (n c : Nat) (w W2 : World) (u : Value) (hrz : ∀ ty, (Builtin.append_ #[46, 46] ty #[.slice (some ⟨w.heap.size, 0, none⟩) 0 0, .slice (some a) n c]).run Tryz.prog (w.alloc (.cells #[] 50)) = .ok u W2) :
  Calls Tryz.prog 114 #[.slice (some a) n c] w fun e w' => e = .returned u ∧ w' = W2 := by
 have mixed : Tryz.prog.follows .mixedOrders = true := by kernel_rfl
 have q22 : ∀ (w : World) (a : Option Addr) (n c n' c' : Nat), (binOp .eql 46 (.slice a n c) (.slice none n' c')).run Tryz.prog w = .ok (.bool a.isNone) w := fun w a n c n' c' => Lib.run_eql_slice_nil w _ _ a n c n' c' Tryz.underlying46
 go_enter Tryz.func114, Tryz.ntmps114
 go_wp2_with (at_builtin; refine Lib.wpList_append_run _ rfl _ _ _ _ rfl _ _ rfl rfl _ _ (hrz _) ?_)
 go_wp2
 go_ret
 exact ⟨rfl, rfl⟩
set_option maxHeartbeats 4000000 in
set_option maxRecDepth 100000 in
theorem ZfI (n c : Nat) (w : World) :
  Calls Tryz.prog 114 #[.slice none n c] w fun e w' => e = .returned (.slice none 0 0) ∧ w' = w := by
 have mixed : Tryz.prog.follows .mixedOrders = true := by kernel_rfl
 have q22 : ∀ (w : World) (a : Option Addr) (n c n' c' : Nat), (binOp .eql 46 (.slice a n c) (.slice none n' c')).run Tryz.prog w = .ok (.bool a.isNone) w := fun w a n c n' c' => Lib.run_eql_slice_nil w _ _ a n c n' c' Tryz.underlying46
 go_enter Tryz.func114, Tryz.ntmps114
 go_wp2
 go_ret
 exact ⟨rfl, rfl⟩
theorem JL (l : List Stop) (h0 : 0 < l.length) (hn : l.length ≤ 1048576) (S : Store) (nx : Nat) (hd : S nx = .dead) :
  Spec Tryz.prog 114 [L l] S (fun p S' => ∃ v, p = .sl nx v 2 0 l.length ∧ S' = S.set nx (.cells v 50 (l.flatMap Enc.enc))) := by
 refine ⟨yL Tryz.func114 (by rfl) rfl, ?_⟩
 intro C w vs hS hl hr
 obtain ⟨u, rfl⟩ := Jg hl
 have hu : Rel C S w (.lst l.length (l.flatMap Enc.enc)) u := hr 0 _ u rfl rfl
 obtain ⟨a, cap, rfl⟩ : ∃ a cap, u = .slice (some a) l.length cap := by
  generalize hq : l.flatMap Enc.enc = cs at hu
  generalize l.length = n at *
  cases hu with
  | lst0 => omega
  | lst1 => exact ⟨_, _, rfl⟩
 obtain ⟨k1, j1, m1⟩ := hS.alloc (.cells #[] 50)
 have hc : Tryz.prog.cellsOf 50 = 2 := by simp
 obtain ⟨news, hsrc, hrel, _⟩ := Yx (P := Tryz.prog) (sz := 2) (m := l.length) (ds := l.flatMap Enc.enc) k1 (by simp [wD]) (hu.mono j1)
 rw [← hc] at hsrc
 have hrun := fun ty => Yw (P := Tryz.prog) (ty := ty) (b := some ⟨w.heap.size, 0, none⟩) (k := 0) (cap := 0) (olds := []) uh.ty uh.pos uh.zero uh.bytes hsrc (run_firstCells_some _ _ 0 ⟨w.heap.size, 0, none⟩ 0 0 [] (by simp) (by simp)) (by omega) (by omega) uh.bpos
 simp only [Nat.zero_add] at hrun
 refine (VM a l.length cap w _ _ hrun).mono ?_
 rintro e w' ⟨rfl, rfl⟩
 have hge := grownCap_ge (w.alloc (.cells #[] 50)) l.length 0 50
 obtain ⟨d1, d2⟩ := k1.drew
 have hfr : Fresh C S nx C.clock := .clock C hd
 have hra := uz (cs := []) (vs := []) (by simp [RelL]) hrel (Builtin.zeroCells (Value.agg #[.int .i64 0, .int .i64 0]).cells (grownCap (w.alloc (.cells #[] 50)) l.length 0 50 - l.length)).toList
 simp only [List.nil_append] at hra
 have hget : ∀ i : Nat, (([] : List Value).toArray ++ news.toArray ++ Builtin.zeroCells (Value.agg #[.int .i64 0, .int .i64 0]).cells (grownCap (w.alloc (.cells #[] 50)) l.length 0 50 - l.length) : Array Value)[i]? = (news ++ (Builtin.zeroCells (Value.agg #[.int .i64 0, .int .i64 0]).cells (grownCap (w.alloc (.cells #[] 50)) l.length 0 50 - l.length)).toList)[i]? := by
  intro i; rw [← Array.getElem?_toList]; simp
 obtain ⟨t1, t2⟩ := d1.object' hfr 50 (([] : List Value).toArray ++ news.toArray ++ Builtin.zeroCells (Value.agg #[.int .i64 0, .int .i64 0]).cells (grownCap (w.alloc (.cells #[] 50)) l.length 0 50 - l.length)) (l.flatMap Enc.enc) (by have := hra.1; simp at this ⊢; omega) (fun i v hi hv => hra.2.1 i v hi (by rw [← hget]; exact hv)) (fun i p v hp hv => (hra.2.2 i p v hp (by rw [← hget]; exact hv)).mono d2)
 refine ⟨_, _, _, _, rfl, ⟨C.clock, rfl, rfl⟩, Zn C S _ _ _ _ _ _ _ _ _ rfl hge (Nat.le_trans hn (by unfold qv; omega)) (grownCap_le_maxLen _ _ _ _ (by unfold maxLen; omega)) ?_, t1, j1.trans (d2.trans t2)⟩
 have := hsrc.size
 simp only [Array.size_append, size_zeroCells, List.size_toArray, this, hc]
 simp [Value.cells]
 omega
theorem YX (l : List Stop) (hn : l.length ≤ 1048576) : Pure Tryz.prog 114 [L l] (L l) := by
 by_cases h0 : 0 < l.length
 ·exact Q1 0 (fun S nx hd => JL l h0 hn S nx (hd nx (Nat.le_refl _))) (by simp)
 ·obtain rfl : l = [] := List.eq_nil_of_length_eq_zero (by omega)
  intro S
  refine ⟨yL Tryz.func114 (by rfl) rfl, ?_⟩
  intro C w vs hS hl hr
  obtain ⟨u, rfl⟩ := Jg hl
  have hu : Rel C S w (.lst 0 []) u := hr 0 _ u rfl rfl
  obtain ⟨a, cap, rfl⟩ : ∃ a cap, u = .slice a 0 cap := by
   cases hu with
   | lst0 => exact ⟨_, _, rfl⟩
   | lst1 => exact ⟨_, _, rfl⟩
  cases a with
  | none =>
   refine (ZfI 0 cap w).mono ?_
   rintro e w' ⟨rfl, rfl⟩
   exact ⟨_, _, _, _, rfl, ⟨rfl, rfl⟩, .lst0, hS, .refl _ _ _⟩
  | some a =>
   obtain ⟨k1, j1, m1⟩ := hS.alloc (.cells #[] 50)
   have hc : Tryz.prog.cellsOf 50 = 2 := by simp
   obtain ⟨news, hsrc, hrel, _⟩ := Yx (P := Tryz.prog) (sz := 2) (m := 0) (ds := []) k1 (by simp [wD]) (hu.mono j1)
   have hne : news = [] := List.eq_nil_of_length_eq_zero (by rw [hsrc.size, Nat.zero_mul])
   subst hne
   rw [← hc] at hsrc
   have hrun := fun ty => QP (P := Tryz.prog) (ty := ty) (b := some ⟨w.heap.size, 0, none⟩) (k := 0) (cap := 0) uh.ty uh.pos hsrc (Nat.le_refl 0)
   refine (VM a 0 cap w _ _ hrun).mono ?_
   rintro e w' ⟨rfl, rfl⟩
   exact ⟨_, _, _, _, rfl, ⟨rfl, rfl⟩, .lst0, k1, j1⟩
set_option maxRecDepth 20000 in
theorem ZfJ {S : Store} {id ver : Nat} (cs : List Stop) (s : Stop) (hn : cs.length ≤ 1000000) (hid : S id = .cells ver 50 (cs.flatMap Enc.enc)) :
  Spec Tryz.prog 111 [.sl id ver 2 0 cs.length, I cs.length, L [s]] S (fun p S' => p = .sl id (ver + 1) 2 0 (cs.length + 1) ∧ S' = S.set id (.cells (ver + 1) 50 ((cs ++ [s]).flatMap Enc.enc))) := by
 refine jg Tryz.func111 Tryz.ntmps111 Tryz.results111 fun nx hd => ?_
 have hlt : id < nx := by
  rcases Nat.lt_or_ge id nx with h | h
  ·exact h
  ·have := hd id h; rw [hid] at this; cases this
 have hx := fun obs => (zy (S := S) (obs := obs) hlt).trans hid
 have hlt1 : ¬ nx ≤ id := by omega
 repeat apply za
 refine pwN [] hx ?_
 intros
 repeat apply za
 refine pwN [] hx ?_
 intros
 repeat apply za
 refine pwN [] hx ?_
 intros
 repeat apply za
 refine pwN [] hx ?_
 intros
 repeat apply za
 refine zj rfl ?_
 refine zd ?_
 repeat apply za
 refine pwN [] hx ?_
 intros
 repeat apply za
 refine pwN [] hx ?_
 intros
 repeat apply za
 refine zh rfl ?_
 repeat apply za
 refine pwN [] (jn2 hx hlt1) ?_
 refine ⟨by omega, ?_⟩
 intros
 repeat apply za
 have hdd : ∀ (o : Ob), zK nx (S.set id o) := by
  intro o q hq
  rw [Store.set_other _ _ _ _ (by omega)]
  exact hd q hq
 exact zb ⟨_, _, by simp; rfl, ⟨by simp [zi], by simp⟩, zL (hdd _)⟩
theorem ZfK {S : Store} {id ver : Nat} (cs : List Stop) (i : Nat) (s : Stop) (hi : i ≤ cs.length) (hn : cs.length ≤ 1000000) (hid : S id = .cells ver 50 (cs.flatMap Enc.enc)) :
  Spec Tryz.prog 111 [.sl id ver 2 0 cs.length, I i, L [s]] S (fun p S' => p = .sl id (ver + 1) 2 0 (cs.length + 1) ∧ S' = S.set id (.cells (ver + 1) 50 ((cs.take i ++ s :: cs.drop i).flatMap Enc.enc))) := by
 by_cases h : i = cs.length
 ·subst h
  rw [List.take_length, List.drop_length]
  exact ZfJ cs s hn hid
 ·exact ZdJ cs i s (by omega) hn hid
open Go Go.Proofs
def ui (d : Day) (t nx : Nat) (k : Nat) (ts : List PV) (ob : Ob) : Prop :=
 ts.length = k ∧ (k ≤ t → ts = (d.take k).flatMap Enc.enc ∧ ob = .dead) ∧
 (t < k → ∃ v l, d[t]? = some l ∧ ts = ((d.take k).flatMap Enc.enc).set t (.sl (nx + 4) v 2 0 l.length) ∧ ob = .cells v 50 (l.flatMap Enc.enc))
theorem ZfL {d : Day} {t nx k : Nat} {ts : List PV} {ob : Ob} (h : ui d t nx k ts ob) (hk : k < d.length) (ht : k ≠ t) : ui d t nx (k + 1) (ts ++ [L d[k]]) ob := by
 obtain ⟨h1, h2, h3⟩ := h
 have e : d.take (k + 1) = d.take k ++ [d[k]] := List.take_succ_eq_append_getElem hk
 refine ⟨by simp [h1], fun hkt => ?_, fun hkt => ?_⟩
 ·obtain ⟨a, b⟩ := h2 (by omega)
  exact ⟨by rw [e, a, List.flatMap_append]; rfl, b⟩
 ·obtain ⟨v, l, a, b, c⟩ := h3 (by omega)
  refine ⟨v, l, a, ?_, c⟩
  rw [b, e, List.flatMap_append, List.set_append_left _ _ (by rw [qm]; simp; omega)]
  rfl
theorem ZfM {d : Day} {t nx : Nat} {ts : List PV} {ob : Ob} (h : ui d t nx t ts ob) (hk : t < d.length) (v : Nat) : ui d t nx (t + 1) (ts ++ [.sl (nx + 4) v 2 0 d[t].length]) (.cells v 50 (d[t].flatMap Enc.enc)) := by
 obtain ⟨h1, h2, h3⟩ := h
 have e : d.take (t + 1) = d.take t ++ [d[t]] := List.take_succ_eq_append_getElem hk
 refine ⟨by simp [h1], fun hkt => by omega, fun _ => ⟨v, d[t], List.getElem?_eq_getElem hk, ?_, rfl⟩⟩
 obtain ⟨a, -⟩ := h2 (Nat.le_refl _)
 have hl : ((d.take t).flatMap Enc.enc).length = t := by rw [qm]; simp; omega
 rw [a, e, List.flatMap_append, List.set_append_right _ _ (by omega), hl, Nat.sub_self]
 rfl
set_option maxRecDepth 20000 in
set_option maxHeartbeats 800000 in
theorem JM (d : Day) (t : Nat) (hd0 : d.length ≤ 1048576) (hd1 : ∀ l ∈ d, l.length ≤ 1048576) (ht : ∀ l, d[t]? = some l → 0 < l.length) (S : Store) (nx : Nat) (hd : zK nx S) :
  Spec Tryz.prog 109 [.agg [L d]] S (fun p S' => ∃ v ts ob, ui d t nx d.length ts ob ∧ p = .agg [.sl (nx + 3) v 1 0 d.length] ∧ S' = (S.set (nx + 3) (.cells v 72 ts)).set (nx + 4) ob) := by
 refine uI hd Tryz.func109 Tryz.ntmps109 Tryz.results109 ?_
 repeat apply za
 refine pwn ?_
 intro v0 v1
 repeat apply za
 refine pwn ?_
 intro v2
 refine qa 2 0 72 1 rfl rfl fun v3 => ?_
 (repeat apply za); refine pwn ?_; intros
 show PW _ _ _ _ _ _ _ (ext _ _ _)
 rw [WD 1]
 repeat apply za
 refine ze (zq (fun (s : Nat × List PV × Ob × Nat × Nat) => s.1 ≤ d.length ∧ ui d t nx s.1 s.2.1 s.2.2.1) (fun (k, ts, ob, v2, v3) => [(2, .ptr (nx + 1) v1 0), (3, .ptr (nx + 2) v2 0), (7, L d), (8, I d.length), (9, I k)]) (fun (k, ts, ob, v2, v3) => [.cells v0 66 [L d], .cells v1 66 [zS], .cells v2 66 [.sl (nx + 3) v3 1 0 k], .cells v3 72 ts, ob]) (fun s => d.length - s.1) (0, [], .dead, v2, v3) [] ⟨by simp, by simp [ui]⟩ (by simp) (by simp) ?_)
 rintro ⟨k, ts, ob, v2, v3⟩ ⟨hk, hI⟩
 simp only at hk hI ⊢
 have htl := hI.1
 have htk : ts.take k = ts := List.take_of_length_le (by omega)
 (repeat apply za); refine pwn ?_; intros
 repeat apply za
 refine zl rfl (fun hc => ?_) (fun hc => ?_)
 ·simp at hc
  obtain ⟨l, tl, a1, a2, a3, e0⟩ := el1 rfl d k hc
  obtain ⟨hkl, rfl⟩ := List.getElem?_eq_some_iff.1 a1
  have hk1 : 1 ≤ d.length - k := by omega
  refine zd (za (ze ?_))
  repeat apply za
  refine pwN [] (jn3 hc e0 hk1) ?_
  intro v5
  by_cases hkt : k = t
  ·subst hkt
   have hcl := JL d[k] (ht _ a1) (hd1 _ (List.getElem_mem hkl))
   obtain rfl := (hI.2.1 (Nat.le_refl _)).2
   repeat apply za
   refine xV (some [nx + 5]) (Row.pures [0, 2, 3] (.alt 1 (.alt 4 (Row.pures [5, 6] (.alt 7 (Row.pures [8] (.alt 9 (.done) .stop)) .stop)) .stop) (.alt 4 (Row.pures [5, 6] (.alt 1 (.alt 7 (Row.pures [8] (.alt 9 (.done) .stop)) .stop) .stop)) .stop))) mixed (by rfl) (by rfl) (by rfl) fun K Gp Gc Gh hK hGp hGc hGh X hX0 hX1 hX2 hX => ?_
   simp -implicitDefEqProofs [hX0, hX1, hX2, hX, htl, htk]
   try clear hX0 hX1 hX2 hX X
   refine ⟨?_, ?_⟩
   all_goals
    refine hGc _ _ _ _ _ _ _ ?_
    refine ((hcl _ (nx + 4) (by simp)).mono ?_).v
    rintro _ _ ⟨v4, rfl, rfl⟩
    rw [qg _ (by omega) (by simp), Nat.add_sub_cancel_left]
    refine ⟨by simp [yf], ?_⟩
    clear hGp hGc hGh
    clear Gp Gc Gh
    refine ju fun Gp Gc Gh hGp hGc hGh X hX0 hX1 hX2 hX => ?_
    simp -implicitDefEqProofs [hX0, hX1, hX2, hX, htl, htk]
    try clear hX0 hX1 hX2 hX X
    refine ⟨by omega, ?_⟩
    refine hK _ _ _ ?_
    clear hK hGp hGc hGh
    clear K Gp Gc Gh
    (repeat apply za); refine pwn ?_; intros
    exact zk (k + 1, _, _, v2, v3 + 1) [_] ⟨hc, ZfM hI hkl v4⟩ (by simp; omega) (by simp [wrN k (by omega)]) rfl (by simp; rfl)
  ·have hcl := YX d[k] (hd1 _ (List.getElem_mem hkl))
   repeat apply za
   refine pwY (some [nx + 5]) (Row.pures [0, 2, 3, 4, 5, 6] (.alt 1 (.alt 7 (Row.pures [8] (.alt 9 (.done) .stop)) .stop) .stop)) mixed (jn2 htl htk) ?_
   refine pwP (hcl) (jn2 htl htk) ?_
   refine ⟨by omega, ?_⟩
   intros
   (repeat apply za); refine pwn ?_; intros
   exact zk (k + 1, _, _, v2, v3 + 1) [_] ⟨hc, ZfL hI hkl hkt⟩ (by simp; omega) (by simp [wrN k (by omega)]) rfl (by simp; rfl)
 ·simp at hc
  obtain rfl : k = d.length := by omega
  refine zm ?_
  (repeat apply za); refine pwn ?_; intros
  repeat apply za
  refine zb ⟨_, (S.set (nx + 3) (.cells v3 72 ts)).set (nx + 4) ob, by simp; rfl, ⟨v3, ts, ob, hI, rfl, rfl⟩, ?_⟩
  intro o
  by_cases h4 : o = nx + 4
  ·subst h4
   exact .inl (by rw [Store.set_same]; simp)
  by_cases h3 : o = nx + 3
  ·subst h3
   exact .inl (by rw [Store.set_other _ _ _ _ h4, Store.set_same]; simp)
  rw [Store.set_other _ _ _ _ h4, Store.set_other _ _ _ _ h3]
  exact zL hd o
theorem ZfN (d : Day) (hd0 : d.length ≤ 1048576) (hd1 : ∀ l ∈ d, l.length ≤ 1048576) : Pure Tryz.prog 109 [.agg [L d]] (.agg [L d]) := by
 refine ZcU (k := d.length) (sz := 1) (e := 72) (cs := d.flatMap Enc.enc) 3 (fun S nx hd => (JM d d.length hd0 hd1 (by simp) S nx hd).mono ?_) (by simp)
 rintro _ _ ⟨v, ts, ob, ⟨h1, h2, -⟩, rfl, rfl⟩
 obtain ⟨rfl, rfl⟩ := h2 (Nat.le_refl _)
 rw [List.take_length]
 refine ⟨v, rfl, ?_⟩
 funext o
 by_cases h4 : o = nx + 4
 ·subst h4
  rw [Store.set_same, Store.set_other _ _ _ _ (by omega), hd _ (by omega)]
 ·rw [Store.set_other _ _ _ _ h4]
theorem ZfO (d : Day) (t : Nat) (l : zo) (hd0 : d.length ≤ 1048576) (hd1 : ∀ l ∈ d, l.length ≤ 1048576) (ht : d[t]? = some l) (hl : 0 < l.length) (S : Store) (nx : Nat) (hd : zK nx S) :
  Spec Tryz.prog 109 [.agg [L d]] S (fun p S' => ∃ v w, p = .agg [.sl (nx + 3) v 1 0 d.length] ∧
   S' = (S.set (nx + 3) (.cells v 72 ((d.flatMap Enc.enc).set t (.sl (nx + 4) w 2 0 l.length)))).set (nx + 4) (.cells w 50 (l.flatMap Enc.enc))) := by
 refine (JM d t hd0 hd1 (fun m hm => by rw [ht] at hm; cases hm; exact hl) S nx hd).mono ?_
 rintro _ _ ⟨v, ts, ob, ⟨h1, -, h3⟩, rfl, rfl⟩
 obtain ⟨w, m, hm, rfl, rfl⟩ := h3 (List.getElem?_eq_some_iff.1 ht).1
 rw [ht] at hm; cases hm
 rw [List.take_length]
 exact ⟨v, w, rfl, rfl⟩
open Go Go.Proofs
def yR (x : Inst) (t : zo) : Int := W (zB x (t.map (·.c)))
def yS (t : zo) : Int := W (zu t)
def yc (x : Inst) (d : Day) : Nat := (d.filter fun t => decide (zr x t ≠ 0)).length
theorem ZfP (x : Inst) (d e : Day) : yc x (d ++ e) = yc x d + yc x e := by simp [yc]
theorem ZfQ (x : Inst) (t : zo) : yc x [t] = if zr x t = 0 then 0 else 1 := by
 by_cases h : zr x t = 0 <;> simp [yc, h]
theorem VN (x : Inst) (d : Day) : yc x d ≤ d.length := List.length_filter_le _ _
abbrev xF (x : Inst) (d : Day) : List PV := [I x.days, I x.veh, I x.cap, I x.len, L x.cust, L x.dist, L d, L (zZ (d.flatten.map (·.c))), B (decide (¬ (zZ (d.flatten.map (·.c))).Nodup)), L (d.map (zr x)), I (yc x d), L (d.map yS), L (d.map (yR x))]
set_option maxRecDepth 20000 in
set_option maxHeartbeats 1600000 in
theorem VO (x : Inst) (d : Day) (hx : x.cust.length ≤ 1048576) (hdo : DayOk d) (hf : d.flatten.length ≤ 1048576) : Pure Tryz.prog 107 [.agg (zp x), .agg [L d]] (.agg (xF x d)) := by
 have h1 := Va d hdo.1 hf
 have h2 := Vj d.flatten hf
 have h3 := Vi (zZ (d.flatten.map (·.c))) (by rw [vi, List.length_map]; exact hf) (ZE _)
 generalize hon : zZ (d.flatten.map (·.c)) = on at *
 generalize htw : decide (¬ on.Nodup) = tw at *
 refine pwe Tryz.func107 Tryz.ntmps107 Tryz.results107 fun S nx hd => ?_
 repeat apply za
 refine pwn ?_
 intro v0 v1 v2
 repeat apply za
 refine pwY (some [nx, nx + 1]) (Row.pures [0, 1, 2, 3, 4, 5] (.alt 6 (.alt 7 (.done) .stop) .stop)) mixed trivial ?_
 refine pwP (h1) trivial ?_
 refine pwP (h2) trivial ?_
 intro v3
 intros
 repeat apply za
 refine pwn ?_
 refine pwc h3 ?_
 intros
 (repeat apply za); refine pwn ?_; intros
 refine qa 3 9 30 1 rfl rfl fun v4 => ?_
 refine qa 3 11 3 1 rfl rfl fun v5 => ?_
 refine qa 3 12 3 1 rfl rfl fun v6 => ?_
 repeat apply za
 refine ze (zq (fun (k, v4, v5, v6) => k ≤ d.length) (fun (k, v4, v5, v6) => [(2, .ptr nx v0 0), (4, .ptr (nx + 2) v2 0), (5, .ptr (nx + 3) v3 0), (20, L d), (21, I d.length), (22, I k)])
  (fun (k, v4, v5, v6) => [.cells v0 25 (zp x), .cells v1 66 [L d], .cells v2 149 [I 0, I 0, I 0, I 0, zS, zS, zS, zS, B false, zS, I 0, zS, zS],
   .cells v3 149 [I x.days, I x.veh, I x.cap, I x.len, L x.cust, L x.dist, L d, L on, B tw, .sl (nx + 4) v4 1 0 k, I (yc x (d.take k)), .sl (nx + 5) v5 1 0 k, .sl (nx + 6) v6 1 0 k],
   .cells v4 30 (((d.map (zr x)).take k).flatMap Enc.enc), .cells v5 3 (((d.map yS).take k).flatMap Enc.enc), .cells v6 3 (((d.map (yR x)).take k).flatMap Enc.enc)]) (fun s => d.length - s.1) (0, v4, v5, v6) [] (by simp) (by simp) (by simp [yc]) ?_)
 rintro ⟨k, v4, v5, v6⟩ hk
 simp only at hk ⊢
 (repeat apply za); refine pwn ?_; intros
 repeat apply za
 refine zl rfl (fun hc => ?_) (fun hc => ?_)
 ·simp at hc
  obtain ⟨t, tl, a1, a2, a3, e0⟩ := el1 rfl d k hc
  have hk1 : 1 ≤ d.length - k := by omega
  have htm := List.mem_of_getElem? a1
  have hm := ZG x t hx (hdo.t t htm)
  have hl := W9 t (hdo.t t htm)
  have hw := ZD x t (hdo.t t htm) (hdo.s t htm)
  have b1 : yc x (d.take (k + 1)) = yc x (d.take k) + if zr x t = 0 then 0 else 1 := by rw [a3, ZfP, ZfQ]
  have b2 := VN x (d.take k)
  rw [List.length_take] at b2
  have b3 := hdo.n
  have b4 := Nat.min_le_left k d.length
  have f1 : (((d.map (zr x)).take (k + 1)).flatMap Enc.enc : List PV) = ((d.map (zr x)).take k).flatMap Enc.enc ++ [I (zr x t)] := by rw [← List.map_take, ← List.map_take, a3]; simp
  have f2 : (((d.map yS).take (k + 1)).flatMap Enc.enc : List PV) = ((d.map yS).take k).flatMap Enc.enc ++ [I (W (zu t))] := by rw [← List.map_take, ← List.map_take, a3]; simp [yS]
  have f3 : (((d.map (yR x)).take (k + 1)).flatMap Enc.enc : List PV) = ((d.map (yR x)).take k).flatMap Enc.enc ++ [I (W (zB x (t.map (·.c))))] := by rw [← List.map_take, ← List.map_take, a3]; simp [yR]
  have l1 : (((d.map (zr x)).take k).flatMap Enc.enc : List PV).length = k := by rw [qk, List.length_take, List.length_map]; omega
  have l2 : (((d.map yS).take k).flatMap Enc.enc : List PV).length = k := by rw [qk, List.length_take, List.length_map]; omega
  have l3 : (((d.map (yR x)).take k).flatMap Enc.enc : List PV).length = k := by rw [qk, List.length_take, List.length_map]; omega
  generalize ((d.map (zr x)).take k).flatMap Enc.enc = c1 at *
  generalize ((d.map yS).take k).flatMap Enc.enc = c2 at *
  generalize ((d.map (yR x)).take k).flatMap Enc.enc = c3 at *
  have t1 : c1.take k = c1 := List.take_of_length_le (by omega)
  have t2 : c2.take k = c2 := List.take_of_length_le (by omega)
  have t3 : c3.take k = c3 := List.take_of_length_le (by omega)
  generalize yc x (d.take k) = bn at *
  have wb : IntKind.i64.wrap ((bn : Int) + 1) = ((bn + 1 : Nat) : Int) := wrN bn (by omega)
  generalize zr x t = mt at *
  generalize W (zu t) = lt at *
  generalize W (zB x (t.map (·.c))) = wt at *
  refine zd (za (ze ?_))
  repeat apply za
  refine pwN [] (jn3 hc e0 hk1) ?_
  intro v7
  repeat apply za
  refine pwn ?_
  refine pwc hm ?_
  intros
  (repeat apply za); refine pwn ?_; intros
  repeat apply za
  refine zR (nx := nx) (fun _ : Unit => True) (fun _ => [(2, .ptr nx v0 0), (4, .ptr (nx + 2) v2 0), (5, .ptr (nx + 3) v3 0), (7, .ptr (nx + 7) v7 0), (8, I mt), (20, L d), (21, I d.length), (22, I k)]) (fun _ => S) (fun _ => [.cells v0 25 (zp x), .cells v1 66 [L d], .cells v2 149 [I 0, I 0, I 0, I 0, zS, zS, zS, zS, B false, zS, I 0, zS, zS],
   .cells v3 149 [I x.days, I x.veh, I x.cap, I x.len, L x.cust, L x.dist, L d, L on, B tw, .sl (nx + 4) v4 1 0 k, I (bn + (if mt = 0 then 0 else 1) : Nat), .sl (nx + 5) v5 1 0 k, .sl (nx + 6) v6 1 0 k],
   .cells v4 30 c1, .cells v5 3 c2, .cells v6 3 c3, .cells v7 72 [L t]]) ?_ ?_
  ·repeat apply za
   refine zl rfl (fun hq => ?_) (fun hq => ?_)
   ·simp at hq
    rw [if_neg hq]
    repeat apply za
    refine pwN [] wb ?_
    intros
    exact zt () [] trivial (by simp) rfl (by simp)
   ·simp at hq
    rw [if_pos hq]
    refine zd ?_
    exact zt () [] trivial (by simp) rfl (by simp)
  ·rintro ⟨⟩ -
   repeat apply za
   refine pwN [] (jn2 t1 l1) ?_
   refine ⟨by omega, ?_⟩
   intros
   repeat apply za
   refine pwY (some [nx + 7]) (Row.pures [0, 2, 3, 4] (.alt 1 (.alt 5 (Row.pures [6] (.alt 7 (.done) .stop)) .stop) .stop)) mixed (jn2 t2 l2) ?_
   refine pwP (hl) (jn2 t2 l2) ?_
   refine ⟨by omega, ?_⟩
   intros
   repeat apply za
   refine pwY (some [nx, nx + 7]) (Row.pures [0, 2, 3, 4, 5] (.alt 1 (.alt 6 (Row.pures [7] (.alt 8 (.done) .stop)) .stop) .stop)) mixed (jn2 t3 l3) ?_
   refine pwP (hw) (jn2 t3 l3) ?_
   refine ⟨by omega, ?_⟩
   intros
   (repeat apply za); refine pwn ?_; intros
   exact zk (k + 1, v4 + 1, v5 + 1, v6 + 1) [_] (by simp; omega) (by simp; omega) (by simp [wrN k (by omega)]) rfl (by simp only [f1, f2, f3, b1]; simp; rfl)
 ·simp at hc
  obtain rfl : k = d.length := by omega
  refine zm ?_
  (repeat apply za); refine pwn ?_; intros
  refine zC 6 rfl ?_
  refine zC 5 rfl ?_
  refine zC 4 rfl ?_
  have g1 : (d.map (zr x)).take d.length = d.map (zr x) := List.take_of_length_le (by simp)
  have g2 : (d.map yS).take d.length = d.map yS := List.take_of_length_le (by simp)
  have g3 : (d.map (yR x)).take d.length = d.map (yR x) := List.take_of_length_le (by simp)
  repeat apply za
  exact zb (zg hd (by simp; rfl) (by simp [zi, g1, g2, g3]; simp [← hon, ← htw]))
open Go Go.Proofs
def YY (P : Program) (k : FuncId) (args : Nat → List PV) (xs : List (List PV)) (ret : PV) : Prop :=
 yF P k ∧ ∀ (l : Nat) (V : Ctx → Store → World → Prop) (_ : ∀ {C C' : Ctx} {S S' : Store} {w w' : World}, Step C S w C' S' w' → V C S w → V C' S' w') (m : Nat) (J : Nat → Store → Prop), (∀ i A, J i A → zK m A) →
  (∀ i A obs x, xs[i]? = some x → J i A → PYield P V l x (ext A m obs) (fun T => ∃ A', J (i + 1) A' ∧ T = ext A' m obs)) →
  ∀ A, J 0 A → PCallsV P V k (args l) A (fun p T => p = ret ∧ J xs.length T)
theorem VP {P : Program} {N : Nat} {f : FuncId} {fn : Func} {c : Code} {rs : List ResultVar} {args : Nat → List PV} {xs : List (List PV)} {ret : PV} (hf : P.funcs[f]? = some fn) (hname : (fn.name == "runtime.NumGoroutine") = false) (hb : fn.body = some c) (hN : fn.ntmps = N) (hrs : fn.results.toList = rs) (hargs : ∀ l, (args l).length ≤ N)
  (h : ∀ (l : Nat) (V : Ctx → Store → World → Prop) (keep : ∀ {C C' : Ctx} {S S' : Store} {w w' : World}, Step C S w C' S' w' → V C S w → V C' S' w') (nx : Nat) (J : Nat → Store → Prop), (∀ i A, J i A → zK nx A) →
   (∀ i A obs x, xs[i]? = some x → J i A → PYield P V l x (ext A nx obs) (fun T => ∃ A', J (i + 1) A' ∧ T = ext A' nx obs)) →
   ∀ A, J 0 A → PW P ⟨none, V, keep⟩ 0 N c (jS P rs (fun p T => p = ret ∧ J xs.length T)) (js (args l)) (ext A nx [])) : YY P f args xs ret := by
 refine ⟨yL hf hname hb, fun l V keep m J hJ hY A hA => ?_⟩
 have := h l V keep m J hJ hY A hA
 rw [yt (hJ 0 A hA)] at this
 exact QL hf hb hN hrs (hargs l) this
theorem PYield.mono {P : Program} {V : Ctx → Store → World → Prop} {l : Nat} {args : List PV} {S : Store} {Q Q' : Store → Prop} (h : PYield P V l args S Q) (hq : ∀ T, Q T → Q' T) : PYield P V l args S Q' := by
 intro C w vs h1 h2 h3 h4
 obtain ⟨fn, tmps, assign, body, hy, hR⟩ := h C w vs h1 h2 h3 h4
 refine ⟨fn, tmps, assign, body, hy, hR.mono ?_⟩
 rintro e w' ⟨S', C', a, b, c⟩
 exact ⟨S', C', a, hq _ b, c⟩
theorem VQ {P : Program} {k : FuncId} {args : Nat → List PV} {xs : List (List PV)} {ret : PV} (h : YY P k args xs ret) {V : Ctx → Store → World → Prop} (keep : ∀ {C C' : Ctx} {S S' : Store} {w w' : World}, Step C S w C' S' w' → V C S w → V C' S' w')
  {l nx : Nat} {J : Nat → Store → Prop} {ys : List (List PV)} (hY : ∀ i A obs x, ys[i]? = some x → J i A → PYield P V l x (ext A nx obs) (fun T => ∃ A', J (i + 1) A' ∧ T = ext A' nx obs))
  (off : Nat) (hxs : ∀ i x, xs[i]? = some x → ys[off + i]? = some x) {A : Store} (hJ : J off A) (obs : List Ob) :
  SpecV P V k (args l) (ext A nx obs) (fun p T => ∃ A', p = ret ∧ J (off + xs.length) A' ∧ T = ext A' nx obs) := by
 refine ⟨h.1, (h.2 l V keep (nx + obs.length) (fun i T => ∃ A', J (off + i) A' ∧ T = ext A' nx obs) ?_ ?_ (ext A nx obs) ⟨A, hJ, rfl⟩).mono ?_⟩
 ·rintro i T ⟨A', _, rfl⟩; exact jF
 ·rintro i T more x hx ⟨A1, hJ1, rfl⟩
  rw [YH _ _ rfl]
  refine (hY (off + i) A1 (obs ++ more) x (hxs i x hx) hJ1).mono ?_
  rintro T ⟨A', hA', rfl⟩
  exact ⟨ext A' nx obs, ⟨A', hA', rfl⟩, (YH _ _ rfl).symm⟩
 ·rintro p T ⟨rfl, A', hA', rfl⟩
  exact ⟨A', rfl, hA', rfl⟩
theorem YZ {P : Program} {nx : Nat} {F : Nat → PV} {obs : List Ob} {rs : List ResultVar} {ps : List PV} {J : Store → Prop} {A : Store} {ret : PV} (hd : zK nx A) (h1 : qT P F (ext A nx obs) rs = some ps) (h2 : zi ps = ret) (hJ : J A) :
  ∃ ps S', qT P F (ext A nx obs) rs = some ps ∧ (zi ps = ret ∧ J S') ∧ ∀ o, S' o = ext A nx obs o ∨ S' o = .dead := ⟨ps, A, h1, ⟨h2, hJ⟩, zL hd⟩
theorem VR {α : Type} {f : Nat → Option α} {n k : Nat} {v : α} (hk : k < n) (hf : f k = some v) : ((List.range n).filterMap f)[((List.range k).filterMap f).length]? = some v := by
 obtain ⟨m, rfl⟩ : ∃ m, n = k + (m + 1) := ⟨n - k - 1, by omega⟩
 rw [List.range_add, List.filterMap_append, List.getElem?_append_right (Nat.le_refl _), Nat.sub_self, List.range_succ_eq_map]
 simp [hf]
theorem VS {α : Type} {f : Nat → Option α} {k : Nat} (hf : f k = none) : ((List.range (k + 1)).filterMap f).length = ((List.range k).filterMap f).length := by
 rw [List.range_succ, List.filterMap_append]; simp [hf]
theorem VT {α : Type} {f : Nat → Option α} {k : Nat} {v : α} (hf : f k = some v) : ((List.range (k + 1)).filterMap f).length = ((List.range k).filterMap f).length + 1 := by
 rw [List.range_succ, List.filterMap_append]; simp [hf]
structure Spot where
 t : Nat
 p : Nat
 m : Int
abbrev xG (s : Spot) : List PV := [.agg [I s.t, I s.p, I s.m]]
def ahZ (l : zo) (i : Nat) : Int := if i = 0 then 0 else (l.getD (i - 1) default).c + 1
def beZ (l : zo) (i : Nat) : Int := if i < l.length then (l.getD i default).c + 1 else 0
def jl (x : Inst) (l : zo) (s : Stop) (i : Nat) : Int := W (W (arc x (ahZ l i) (s.c + 1) + arc x (s.c + 1) (beZ l i)) - arc x (ahZ l i) (beZ l i))
def jX (x : Inst) (t : Nat) (l : zo) (w : Int) (s : Stop) (i : Nat) : Option Spot := if W (w + jl x l s i) ≤ x.len then some ⟨t, i, jl x l s i⟩ else none
def xq (x : Inst) (t : Nat) (l : zo) (fl bad ll w : Int) (s : Stop) : List Spot :=
 if 0 < bad - (if fl = 13 then 1 else 0) ∨ x.cap < W (ll + s.q) then [] else (List.range (l.length + 1)).filterMap (jX x t l w s)
abbrev jY (x : Inst) (d : Day) (on : List Int) (tw : Bool) (fs : List Int) (bad : Int) (ls ws : List Int) : List PV := [I x.days, I x.veh, I x.cap, I x.len, L x.cust, L x.dist, L d, L on, B tw, L fs, I bad, L ls, L ws]
set_option maxRecDepth 20000 in
set_option maxHeartbeats 1600000 in
theorem ZfR (x : Inst) (d : Day) (on : List Int) (tw : Bool) (fs : List Int) (bad : Nat) (ls ws : List Int) (t : Nat) (l : zo) (s : Stop) (fl ll w : Int) (hbad : bad ≤ 1048576) (hdn : d.length ≤ 1048576) (hd : d[t]? = some l) (hfs : fs[t]? = some fl) (hls : ls[t]? = some ll) (hws : ws[t]? = some w)
  (hfn : fs.length = d.length) (hln : ls.length = d.length) (hwn : ws.length = d.length) (hb : fl = 13 → 0 < bad) (hll : l.length ≤ 1048576) (hsl : ∀ s ∈ l, small s.c) (hss : small s.c) :
  YY Tryz.prog 149 (fun y => [.agg (jY x d on tw fs bad ls ws), I t, .agg [I s.c, I s.q], yld y]) ((xq x t l fl bad ll w s).map xG) (B true) := by
 refine VP Tryz.func149 (by rfl) rfl Tryz.ntmps149 (congrArg Array.toList Tryz.results149) (by simp) fun y V keep nx J hJd hY A0 hA0 => ?_
 have ht : t < d.length := (List.getElem?_eq_some_iff.1 hd).1
 obtain ⟨fl', tf, a1, -, -, ef⟩ := el1 rfl fs t (by omega)
 obtain ⟨ll', tl, a2, -, -, elo⟩ := el1 rfl ls t (by omega)
 obtain ⟨w', tw', a3, -, -, ew⟩ := el1 rfl ws t (by omega)
 obtain ⟨l', td, a4, -, -, ed⟩ := el1 rfl d t ht
 obtain rfl : fl = fl' := by rw [hfs] at a1; exact Option.some.inj a1
 obtain rfl : ll = ll' := by rw [hls] at a2; exact Option.some.inj a2
 obtain rfl : w = w' := by rw [hws] at a3; exact Option.some.inj a3
 obtain rfl : l = l' := by rw [hd] at a4; exact Option.some.inj a4
 have h1 : 1 ≤ fs.length - t := by omega
 have h2 : 1 ≤ ls.length - t := by omega
 have h3 : 1 ≤ ws.length - t := by omega
 have h4 : 1 ≤ d.length - t := by omega
 have g1 : t < fs.length := by omega
 have g2 : t < ls.length := by omega
 have g3 : t < ws.length := by omega
 repeat apply za
 refine pwn ?_
 intro v0 v1
 (repeat apply za); refine pwn ?_; intros
 repeat apply za
 refine pwN [] (jn3 ef h1 g1) ?_
 intros
 obtain ⟨oth, hoth⟩ : ∃ oth : Int, oth = bad - (if fl = 13 then 1 else 0) := ⟨_, rfl⟩
 repeat apply za
 refine zR (nx := nx) (fun _ : Unit => True) (fun _ => [(1, I t), (3, yld y), (4, .ptr nx v0 0), (6, .ptr (nx + 1) v1 0), (9, I oth)]) (fun _ => A0) (fun _ => [.cells v0 149 (jY x d on tw fs bad ls ws), .cells v1 50 [I s.c, I s.q]]) ?_ ?_
 ·repeat apply za
  refine zl rfl (fun hq => ?_) (fun hq => ?_)
  ·simp at hq
   have hb' := hb hq
   rw [if_pos hq] at hoth
   have wb : IntKind.i64.wrap ((bad : Int) - 1) = oth := by rw [hoth, wr _ (by omega) (by omega)]
   repeat apply za
   refine pwN [] wb ?_
   intros
   exact zt () [] trivial (by simp) rfl (by simp)
  ·simp at hq
   rw [if_neg hq] at hoth
   obtain rfl : oth = bad := by omega
   refine zd ?_
   exact zt () [] trivial (by simp) rfl (by simp)
 ·rintro ⟨⟩ -
  have hout : ∀ (h : 0 < oth ∨ x.cap < W (ll + s.q)), xq x t l fl bad ll w s = [] := fun h => by unfold xq; rw [if_pos (by rw [hoth] at h; exact h)]
  by_cases ho : 0 < oth
  ·rw [hout (.inl ho)] at hY ⊢
   repeat apply za
   refine pwY (some [nx, nx + 1]) (Row.pures [0, 1, 2, 3, 4, 5, 6, 7, 8, 9, 10, 11, 12, 13, 14, 15] .done) mixed (jn2 ho zn) ?_
   intros
   repeat apply za
   refine zh rfl ?_
   (repeat apply za); refine pwn ?_; intros
   repeat apply za
   exact zb (YZ (hJd _ _ hA0) (by simp; rfl) (by simp [zi]) hA0)
  by_cases hcap : x.cap < W (ll + s.q)
  ·rw [hout (.inr hcap)] at hY ⊢
   repeat apply za
   refine pwY (some [nx, nx + 1]) (Row.pures [0, 1, 2, 3, 4, 5, 6, 7, 8, 9, 10, 11, 12, 13, 14, 15] .done) mixed (jn6 ho hcap elo h2 g2 zn) ?_
   intros
   repeat apply za
   refine zh rfl ?_
   (repeat apply za); refine pwn ?_; intros
   repeat apply za
   exact zb (YZ (hJd _ _ hA0) (by simp; rfl) (by simp [zi]) hA0)
  have hz : xq x t l fl bad ll w s = (List.range (l.length + 1)).filterMap (jX x t l w s) := by unfold xq; rw [if_neg (by rw [← hoth]; simp [ho, hcap])]
  clear hout
  rw [hz] at hY ⊢
  repeat apply za
  refine pwY (some [nx, nx + 1]) (Row.pures [0, 1, 2, 3, 4, 5, 6, 7, 8, 9, 10, 11, 12, 13, 14, 15] .done) mixed (jn5 ho hcap elo h2 g2) ?_
  intros
  repeat apply za
  refine zj rfl ?_
  refine zd ?_
  have wc : IntKind.i64.wrap (s.c + 1) = s.c + 1 := wr _ (by unfold small at hss; omega) (by unfold small at hss; omega)
  repeat apply za
  refine pwY (some [nx, nx + 1]) (Row.pures [0, 1, 2, 3, 4, 5, 6, 7, 8, 9, 10, 11] .done) mixed (jn4 ed h4 ht wc) ?_
  intros
  have wl : IntKind.i64.wrap ((l.length : Int) + 1) = ((l.length + 1 : Nat) : Int) := wrN _ (by omega)
  repeat apply za
  refine pwN [] wl ?_
  intros
  repeat apply za
  refine ze (qV (σ := Nat × Store) (fun s' => s'.1 ≤ l.length + 1 ∧ J ((List.range s'.1).filterMap (jX x t l w s)).length s'.2) (fun s' => [(1, I t), (3, yld y), (4, .ptr nx v0 0), (6, .ptr (nx + 1) v1 0), (10, L l), (11, I (s.c + 1)), (54, I ((l.length + 1 : Nat) : Int)), (55, I s'.1)]) (fun s' => s'.2)
   (fun _ => [.cells v0 149 (jY x d on tw fs bad ls ws), .cells v1 50 [I s.c, I s.q]]) (fun s' => l.length + 1 - s'.1) (zt (0, A0) [] (by simpa using hA0) (by simp) rfl (by simp)) ?_)
  rintro ⟨k, A⟩ ⟨hk, hJ⟩
  simp only at hk hJ ⊢
  (repeat apply za); refine pwn ?_; intros
  repeat apply za
  refine zl rfl (fun hc => ?_) (fun hc => ?_)
  ·simp at hc
   refine zd (za (ze ?_))
   (repeat apply za); refine pwn ?_; intros
   (repeat apply za); refine pwn ?_; intros
   (repeat apply za); refine pwn ?_; intros
   repeat apply za
   refine zR (nx := nx) (fun _ : Unit => True) (fun _ => [(1, I t), (3, yld y), (4, .ptr nx v0 0), (6, .ptr (nx + 1) v1 0), (10, L l), (11, I (s.c + 1)), (12, I k), (13, I (ahZ l k)), (14, I 0), (54, I ((l.length + 1 : Nat) : Int)), (55, I k)]) (fun _ => A) (fun _ => [.cells v0 149 (jY x d on tw fs bad ls ws), .cells v1 50 [I s.c, I s.q]]) ?_ ?_
   ·repeat apply za
    refine zl rfl (fun hk0 => ?_) (fun hk0 => ?_)
    ·simp at hk0
     obtain ⟨j, rfl⟩ : ∃ j, k = j + 1 := ⟨k - 1, by omega⟩
     obtain ⟨p, tp, p1, -, -, -, ep⟩ := el 2 rfl l j (by omega)
     have wj : IntKind.i64.wrap (j : Int) = (j : Int) := wr _ (by omega) (by omega)
     have hjl : j < l.length := by omega
     have hj2 : 2 ≤ l.length * 2 - j * 2 := by omega
     have hsm := hsl p (List.mem_of_getElem? p1)
     have wp : IntKind.i64.wrap (p.c + 1) = p.c + 1 := wr _ (by unfold small at hsm; omega) (by unfold small at hsm; omega)
     have hah : ahZ l (j + 1) = p.c + 1 := by unfold ahZ; rw [if_neg (by omega), Nat.add_sub_cancel, List.getD_eq_getElem?_getD, p1]; rfl
     repeat apply za
     refine pwN [] (jn5 wj ep wp hjl hj2) ?_
     intros
     exact zt () [] trivial (by simp [hah]) rfl (by simp)
    ·simp at hk0
     subst hk0
     refine zd ?_
     exact zt () [] trivial (by simp [ahZ]) rfl (by simp)
   ·rintro ⟨⟩ -
    (repeat apply za); refine pwn ?_; intros
    repeat apply za
    refine zR (nx := nx) (fun _ : Unit => True) (fun _ => [(1, I t), (3, yld y), (4, .ptr nx v0 0), (6, .ptr (nx + 1) v1 0), (10, L l), (11, I (s.c + 1)), (12, I k), (13, I (ahZ l k)), (14, I (beZ l k)), (54, I ((l.length + 1 : Nat) : Int)), (55, I k)]) (fun _ => A) (fun _ => [.cells v0 149 (jY x d on tw fs bad ls ws), .cells v1 50 [I s.c, I s.q]]) ?_ ?_
    ·repeat apply za
     refine zl rfl (fun hk0 => ?_) (fun hk0 => ?_)
     ·simp at hk0
      obtain ⟨p, tp, p1, -, -, -, ep⟩ := el 2 rfl l k hk0
      have hj2 : 2 ≤ l.length * 2 - k * 2 := by omega
      have hsm := hsl p (List.mem_of_getElem? p1)
      have wp : IntKind.i64.wrap (p.c + 1) = p.c + 1 := wr _ (by unfold small at hsm; omega) (by unfold small at hsm; omega)
      have hah : beZ l k = p.c + 1 := by unfold beZ; rw [if_pos hk0, List.getD_eq_getElem?_getD, p1]; rfl
      repeat apply za
      refine pwN [] (jn4 ep wp hk0 hj2) ?_
      intros
      exact zt () [] trivial (by simp [hah]) rfl (by simp)
     ·simp at hk0
      refine zd ?_
      exact zt () [] trivial (by simp [beZ]; omega) rfl (by simp)
    ·rintro ⟨⟩ -
     have q1 := jT x (ahZ l k) (s.c + 1)
     have q2 := jT x (s.c + 1) (beZ l k)
     have q3 := jT x (ahZ l k) (beZ l k)
     have hmo : W (W (arc x (ahZ l k) (s.c + 1) + arc x (s.c + 1) (beZ l k)) - arc x (ahZ l k) (beZ l k)) = jl x l s k := rfl
     repeat apply za
     refine pwY (some [nx, nx + 1]) (Row.pures [0, 1, 2, 3, 4, 5, 6, 7, 8, 9, 10, 11, 12, 13, 14, 15, 16, 17] .done) mixed trivial ?_
     refine pwP (q1) trivial ?_
     refine pwP (q2) trivial ?_
     refine pwP (q3) hmo ?_
     intros
     by_cases hf : W (w + jl x l s k) ≤ x.len
     ·have hsp : jX x t l w s k = some ⟨t, k, jl x l s k⟩ := by unfold jX; rw [if_pos hf]
      have hat := VR (n := l.length + 1) (by omega) hsp
      have hnx := VT hsp
      have hy : (((List.range (l.length + 1)).filterMap (jX x t l w s)).map xG)[((List.range k).filterMap (jX x t l w s)).length]? = some (xG ⟨t, k, jl x l s k⟩) := by rw [List.getElem?_map, hat]; rfl
      repeat apply za
      refine xV (some [nx, nx + 1]) (Row.pures [0, 1, 2, 3, 4, 5, 6, 7, 8, 9, 10, 11, 12, 13, 14, 15, 16] (.alt 17 (Row.pures [18, 19] .done) .stop)) mixed (by rfl) (by rfl) (by rfl) fun K Gp Gc Gh hK hGp hGc hGh X hX0 hX1 hX2 hX => ?_
      simp -implicitDefEqProofs [hX0, hX1, hX2, hX, hmo, ew, h3, g3, hf]
      try clear hX0 hX1 hX2 hX X
      refine hGh _ _ _ _ _ (by rfl) (Zt rfl rfl rfl (hY _ _ _ _ hy hJ) ?_)
      rintro _ ⟨A', hJ', rfl⟩
      refine ⟨by simp [yf], ?_⟩
      clear hGp hGc hGh
      clear Gp Gc Gh
      refine ju fun Gp Gc Gh hGp hGc hGh X hX0 hX1 hX2 hX => ?_
      simp -implicitDefEqProofs [hX0, hX1, hX2, hX]
      try clear hX0 hX1 hX2 hX X
      refine hK _ _ _ ?_
      clear hK hGp hGc hGh
      clear K Gp Gc Gh
      repeat apply za
      refine zj rfl ?_
      refine zd ?_
      (repeat apply za); refine pwn ?_; intros
      exact zk (k + 1, A') [] ⟨by show k + 1 ≤ _; omega, by rw [hnx]; exact hJ'⟩ (by simp; omega) (by simp [wrN k (by omega)]) rfl (by simp)
     ·have hsp : jX x t l w s k = none := by unfold jX; rw [if_neg hf]
      have hnx := VS hsp
      repeat apply za
      refine pwY (some [nx, nx + 1]) (Row.pures [0, 1, 2, 3, 4, 5, 6, 7, 8, 9, 10, 11, 12, 13, 14, 15, 16, 17, 18, 19] .done) mixed (jn6 hmo ew h3 g3 hf zn) ?_
      intros
      repeat apply za
      refine zj rfl ?_
      refine zd ?_
      (repeat apply za); refine pwn ?_; intros
      exact zk (k + 1, A) [] ⟨by show k + 1 ≤ _; omega, by rw [hnx]; exact hJ⟩ (by simp; omega) (by simp [wrN k (by omega)]) rfl (by simp)
  ·simp at hc
   obtain rfl : k = l.length + 1 := by omega
   refine zm ?_
   (repeat apply za); refine pwn ?_; intros
   repeat apply za
   exact zb (YZ (hJd _ _ hJ) (by simp; rfl) (by simp [zi]) (by simpa using hJ))
open Go
structure Goods (n : Int) (l : List Stop) : Prop where
 each : ∀ s ∈ l, 0 ≤ s.c ∧ s.c < n ∧ 1 ≤ s.q ∧ s.q ≤ 12
 nd : (l.map (·.c)).Nodup
 len : l.length ≤ 6
structure Made (n : Int) (d : Day) : Prop where
 goods : Goods n d.flatten
 ne : ∀ t ∈ d, t ≠ []
theorem ZM : ∀ (d : Day), (∀ t ∈ d, t ≠ []) → d.length ≤ d.flatten.length
 | [], _ => by simp
 | t :: d, h => by
  have := ZM d fun t ht => h t (by simp [ht])
  have h1 : t.length ≠ 0 := by simpa using h t (by simp)
  rw [List.flatten_cons, List.length_append, List.length_cons]; omega
theorem jZ {d : Day} {t : zo} (h : t ∈ d) : t.Sublist d.flatten := by
 obtain ⟨a, b, rfl⟩ := List.append_of_mem h
 rw [List.flatten_append, List.flatten_cons]
 exact (List.sublist_append_left t b.flatten).trans (List.sublist_append_right a.flatten _)
section
variable {n : Int} {d : Day} (h : Made n d)
include h
theorem Made.len : d.length ≤ 6 := Nat.le_trans (ZM d h.ne) h.goods.len
theorem Made.tlen {t : zo} (ht : t ∈ d) : t.length ≤ 6 := Nat.le_trans (jZ ht).length_le h.goods.len
theorem Made.stop {t : zo} (ht : t ∈ d) {s : Stop} (hs : s ∈ t) : 0 ≤ s.c ∧ s.c < n ∧ 1 ≤ s.q ∧ s.q ≤ 12 := h.goods.each s ((jZ ht).subset hs)
theorem Made.small (hn : n ≤ 6) {t : zo} (ht : t ∈ d) : ∀ s ∈ t, small s.c := fun s hs => by have := h.stop ht hs; unfold Pv.small; omega
end
theorem ZfS {α : Type} {a b : List (List α)} (h : a.Sublist b) : a.flatten.Sublist b.flatten := by
 induction h with
 | slnil => exact List.Sublist.refl _
 | cons x _ ih => rw [List.flatten_cons]; exact ih.trans (List.sublist_append_right _ _)
 | cons_cons x _ ih => rw [List.flatten_cons, List.flatten_cons]; exact List.Sublist.append_left ih x
theorem ZfT {a b : List Int} (h : a.Perm b) : a.sum = b.sum := by
 induction h with
 | nil => rfl
 | cons x _ ih => simp [ih]
 | swap x y l => simp; omega
 | trans _ _ ih1 ih2 => exact ih1.trans ih2
theorem Made.sub {n : Int} {d e : Day} (h : Made n d) (hs : e.Sublist d) : Made n e := by
 have hf : e.flatten.Sublist d.flatten := ZfS hs
 exact ⟨⟨fun s q => h.goods.each s (hf.subset q), h.goods.nd.sublist (hf.map _), Nat.le_trans hf.length_le h.goods.len⟩, fun t ht => h.ne t (hs.subset ht)⟩
theorem Made.perm {n : Int} {d e : Day} (h : Made n d) (hp : e.Perm d) : Made n e := by
 have hf : e.flatten.Perm d.flatten := hp.flatten
 exact ⟨⟨fun s q => h.goods.each s (hf.subset q), (hf.map _).nodup_iff.2 h.goods.nd, by rw [hf.length_eq]; exact h.goods.len⟩, fun t ht => h.ne t (hp.subset ht)⟩
theorem jm (x : Inst) (d : Day) : zH x d = 0 ↔ (∀ t ∈ d, zr x t = 0) ∧ (d.flatten.map (·.c)).Nodup ∧ (d.length : Int) ≤ x.veh := by
 unfold zH
 cases hf : d.find? (fun t => zr x t != 0) with
 | some t =>
  have h1 := List.find?_some hf
  have h2 := List.mem_of_find?_eq_some hf
  simp only
  constructor
  ·intro e; simp [e] at h1
  ·rintro ⟨h, _⟩; exact h t h2
 | none =>
  rw [List.find?_eq_none] at hf
  simp only
  constructor
  ·intro e
   refine ⟨fun t ht => by simpa using hf t ht, ?_⟩
   split at e
   ·cases e
   ·split at e
    ·cases e
    ·rename_i h1 h2; exact ⟨by simpa using h1, by omega⟩
  ·rintro ⟨_, h1, h2⟩
   rw [if_neg (by simpa using h1), if_neg (by omega)]
theorem wJ (x : Inst) (t : zo) : zr x t = 0 ↔ yg x t = true ∧ (t.map (·.c)).Nodup ∧ W (zu t) ≤ x.cap ∧ W (zB x (t.map (·.c))) ≤ x.len := by
 unfold zr
 constructor
 ·intro e
  split at e
  ·cases e
  ·split at e
   ·cases e
   ·split at e
    ·cases e
    ·split at e
     ·cases e
     ·rename_i h1 h2 h3 h4
      exact ⟨by simpa using h1, by simpa using h2, by omega, by omega⟩
 ·rintro ⟨h1, h2, h3, h4⟩
  rw [if_neg (by simp [h1]), if_neg (by simpa using h2), if_neg (by omega), if_neg (by omega)]
theorem JN {t : zo} (h : ∀ s ∈ t, 0 ≤ s.q ∧ s.q ≤ 2147483648) : 0 ≤ zu t ∧ zu t ≤ 2147483648 * t.length := by
 induction t with
 | nil => simp [zu]
 | cons s t ih =>
  have := ih fun a ha => h a (by simp [ha])
  have := h s (by simp)
  simp only [zu, List.map_cons, List.sum_cons, List.length_cons] at *
  omega
theorem ZfU (a b : zo) : zu (a ++ b) = zu a + zu b := by simp [zu]
open Go Go.Proofs
def yd (x : Inst) (d : Day) (s : Stop) : List Spot :=
 if zr x [s] = 1 ∨ s.c ∈ d.flatten.map (·.c) ∨ ¬ (d.flatten.map (·.c)).Nodup ∨ x.veh < d.length then []
 else ((List.range d.length).flatMap fun t => xq x t (d.getD t []) (zr x (d.getD t [])) (yc x d) (yS (d.getD t [])) (yR x (d.getD t [])) s) ++
  (if yc x d = 0 ∧ zr x [s] = 0 ∧ (d.length : Int) < x.veh then [⟨d.length, 0, W (zB x [s.c])⟩] else [])
def j4 (st : Spot × Bool) (b : Spot) : Spot × Bool := if st.2 = false ∨ b.m < st.1.m then (b, true) else st
def jM (l : List Spot) : Spot × Bool := l.foldl j4 (⟨0, 0, 0⟩, false)
def yH (l : zo) (i : Nat) (s : Stop) : zo := l.take i ++ s :: l.drop i
def yT (d : Day) (b : Spot) (s : Stop) : Day := if b.t = d.length then d ++ [[s]] else d.set b.t (yH (d.getD b.t []) b.p s)
def zW (x : Inst) (d : Day) (s : Stop) : Day × Bool := bif (jM (yd x d s)).2 then (yT d (jM (yd x d s)).1 s, true) else (d, false)
theorem VU : ∀ (l : List Spot) (st : Spot × Bool), (l.foldl j4 st).2 = true → (l.foldl j4 st) = st ∨ (l.foldl j4 st).1 ∈ l
 | [], st, _ => .inl rfl
 | b :: l, st, h => by
  rw [List.foldl_cons] at h ⊢
  rcases VU l _ h with e | e
  ·by_cases hq : st.2 = false ∨ b.m < st.1.m
   ·right; rw [e]; unfold j4; rw [if_pos hq]; simp
   ·left; rw [e]; unfold j4; rw [if_neg hq]
  ·exact .inr (by simp [e])
theorem Y0 {l : List Spot} (h : (jM l).2 = true) : (jM l).1 ∈ l := by
 rcases VU l _ h with e | e
 ·rw [show l.foldl j4 (⟨0, 0, 0⟩, false) = jM l from rfl] at e
  rw [e] at h; cases h
 ·exact e
theorem ZfV {x : Inst} {t : Nat} {l : zo} {fl bad ll w : Int} {s : Stop} {b : Spot} (h : b ∈ xq x t l fl bad ll w s) : ¬ (0 < bad - (if fl = 13 then 1 else 0)) ∧ W (ll + s.q) ≤ x.cap ∧ b ∈ (List.range (l.length + 1)).filterMap (jX x t l w s) := by
 unfold xq at h
 by_cases hw : 0 < bad - (if fl = 13 then 1 else 0) ∨ x.cap < W (ll + s.q)
 ·rw [if_pos hw] at h; cases h
 ·rw [if_neg hw] at h
  refine ⟨fun e => hw (.inl e), ?_, h⟩
  rcases Int.lt_or_le x.cap (W (ll + s.q)) with e | e
  ·exact absurd (.inr e) hw
  ·exact e
theorem ZN {x : Inst} {d : Day} {s : Stop} {b : Spot} (h : b ∈ yd x d s) :
  zr x [s] ≠ 1 ∧ s.c ∉ d.flatten.map (·.c) ∧ (d.flatten.map (·.c)).Nodup ∧ (d.length : Int) ≤ x.veh ∧
  ((∃ l, d[b.t]? = some l ∧ b.p ≤ l.length ∧ ¬ (0 < (yc x d : Int) - (if zr x l = 13 then 1 else 0)) ∧ W (yS l + s.q) ≤ x.cap ∧ b.m = jl x l s b.p ∧ W (yR x l + b.m) ≤ x.len) ∨
   (b = ⟨d.length, 0, W (zB x [s.c])⟩ ∧ yc x d = 0 ∧ zr x [s] = 0 ∧ (d.length : Int) < x.veh)) := by
 unfold yd at h
 split at h
 ·cases h
 ·rename_i hq
  have q1 : zr x [s] ≠ 1 := fun e => hq (.inl e)
  have q2 : s.c ∉ d.flatten.map (·.c) := fun e => hq (.inr (.inl e))
  have q3 : (d.flatten.map (·.c)).Nodup := Classical.byContradiction fun e => hq (.inr (.inr (.inl e)))
  have q4 : (d.length : Int) ≤ x.veh := by
   rcases Int.lt_or_le x.veh d.length with e | e
   ·exact absurd (.inr (.inr (.inr e))) hq
   ·exact e
  refine ⟨q1, q2, q3, q4, ?_⟩
  rw [List.mem_append] at h
  rcases h with h | h
  ·left
   obtain ⟨t, ht, hb⟩ := List.mem_flatMap.1 h
   rw [List.mem_range] at ht
   have hd : d[t]? = some (d.getD t []) := by rw [List.getD_eq_getElem?_getD, List.getElem?_eq_getElem ht]; rfl
   obtain ⟨w1, w2, hb⟩ := ZfV hb
   obtain ⟨i, hi, he⟩ := List.mem_filterMap.1 hb
   rw [List.mem_range] at hi
   unfold jX at he
   by_cases hlen : W (yR x (d.getD t []) + jl x (d.getD t []) s i) ≤ x.len
   ·rw [if_pos hlen] at he
    cases he
    exact ⟨_, hd, by simp only; omega, w1, w2, rfl, hlen⟩
   ·rw [if_neg hlen] at he; cases he
  ·right
   split at h
   ·rename_i hc; simp at h; exact ⟨h, hc⟩
   ·cases h
def z8 (a : Int) : List Int → Int
 | [] => a
 | c :: l => z8 (c + 1) l
def ZO : List Int → Int
 | [] => 0
 | c :: _ => c + 1
theorem VV (x : Inst) (c : Int) (r : List Int) : ∀ (p : List Int) (a : Int), zY x a (p ++ c :: r) = zY x a (p ++ r) + (arc x (z8 a p) (c + 1) + arc x (c + 1) (ZO r) - arc x (z8 a p) (ZO r))
 | [], a => by
  cases r with
  | nil => simp only [List.nil_append, zY, z8, ZO]; omega
  | cons e r => simp only [List.nil_append, zY, z8, ZO]; omega
 | e :: p, a => by
  simp only [List.cons_append, zY, z8]
  rw [VV x c r p (e + 1)]; omega
theorem VW : ∀ (p : List Int) (a : Int), z8 a p = if p.length = 0 then a else (p.getD (p.length - 1) 0) + 1
 | [], a => by simp [z8]
 | [c], a => by simp [z8]
 | c :: e :: p, a => by
  simp only [z8]
  rw [show z8 (e + 1) p = z8 (c + 1) (e :: p) from rfl, VW (e :: p) (c + 1)]
  simp [List.getD_eq_getElem?_getD]
theorem ZfW (l : zo) (i : Nat) (h : i < l.length) : (l.map (·.c)).getD i 0 = (l.getD i default).c := by
 rw [List.getD_eq_getElem?_getD, List.getD_eq_getElem?_getD, List.getElem?_map, List.getElem?_eq_getElem h]; rfl
theorem VX (x : Inst) (l : zo) (s : Stop) (i : Nat) (h0 : l ≠ []) (hi : i ≤ l.length) :
  zB x ((yH l i s).map (·.c)) = zB x (l.map (·.c)) + (arc x (ahZ l i) (s.c + 1) + arc x (s.c + 1) (beZ l i) - arc x (ahZ l i) (beZ l i)) := by
 unfold zB yH
 rw [if_neg (by simp), if_neg (by simpa using h0)]
 rw [List.map_append, List.map_cons, VV, ← List.map_append, List.take_append_drop]
 have e1 : z8 0 ((l.take i).map (·.c)) = ahZ l i := by
  rw [VW]
  unfold ahZ
  rw [List.length_map, List.length_take]
  by_cases hz : i = 0
  ·rw [if_pos (by omega), if_pos hz]
  ·rw [if_neg (by omega), if_neg hz, ZfW _ _ (by rw [List.length_take]; omega)]
   rw [List.getD_eq_getElem?_getD, List.getD_eq_getElem?_getD, List.getElem?_take_of_lt (by omega), show min i l.length - 1 = i - 1 from by omega]
 have e2 : ZO ((l.drop i).map (·.c)) = beZ l i := by
  unfold beZ
  by_cases hz : i < l.length
  ·rw [if_pos hz, List.drop_eq_getElem_cons hz, List.getD_eq_getElem?_getD, List.getElem?_eq_getElem hz]; rfl
  ·rw [if_neg hz, List.drop_eq_nil_of_le (by omega)]; rfl
 rw [e1, e2]
theorem VY (x : Inst) (l : zo) (s : Stop) (i : Nat) (h0 : l ≠ []) (hi : i ≤ l.length) : yR x (yH l i s) = W (yR x l + jl x l s i) := by
 unfold yR jl
 rw [VX x l s i h0 hi, xg, Q0]
 generalize arc x (ahZ l i) (s.c + 1) + arc x (s.c + 1) (beZ l i) = p
 generalize arc x (ahZ l i) (beZ l i) = q
 generalize zB x (l.map (·.c)) = r
 simp only [W, IntKind.wrap_i64]; omega
theorem VZ (l : zo) (s : Stop) (i : Nat) : yS (yH l i s) = W (yS l + s.q) := by
 unfold yS
 rw [xg]
 have : zu (yH l i s) = zu l + s.q := by
  unfold zu yH
  conv => rhs; rw [← List.take_append_drop i l]
  simp only [List.map_append, List.map_cons, List.sum_append, List.sum_cons]; omega
 rw [this]
theorem ZP (l : zo) (s : Stop) (i : Nat) : (yH l i s).Perm (s :: l) := by
 unfold yH
 have := List.perm_middle (a := s) (l₁ := l.take i) (l₂ := l.drop i)
 rwa [List.take_append_drop] at this
theorem JO {α : Type} : ∀ (d : List (List α)) (t : Nat) (l m : List α) (s : α), d[t]? = some l → m.Perm (s :: l) → (d.set t m).flatten.Perm (s :: d.flatten)
 | [], t, l, m, s, h, _ => by simp at h
 | a :: d, 0, l, m, s, h, hm => by
  simp at h; subst h
  simp only [List.set_cons_zero, List.flatten_cons]
  exact (hm.append_right _)
 | a :: d, t + 1, l, m, s, h, hm => by
  simp only [List.getElem?_cons_succ] at h
  simp only [List.set_cons_succ, List.flatten_cons]
  exact ((JO d t l m s h hm).append_left a).trans List.perm_middle
theorem JP {x : Inst} {d : Day} {s : Stop} {b : Spot} (h : b ∈ yd x d s) : (yT d b s).flatten.Perm (s :: d.flatten) := by
 obtain ⟨-, -, -, -, h⟩ := ZN h
 unfold yT
 rcases h with ⟨l, hl, -⟩ | ⟨rfl, -⟩
 ·have hlt := (List.getElem?_eq_some_iff.1 hl).1
  rw [if_neg (by omega), List.getD_eq_getElem?_getD, hl]
  exact JO d b.t l _ s hl (ZP l s b.p)
 ·rw [if_pos rfl]
  simp only [List.flatten_append, List.flatten_cons, List.flatten_nil, List.append_nil]
  exact List.perm_append_comm
theorem V1 {x : Inst} {d : Day} {s : Stop} (h : (zW x d s).2 = true) : (zW x d s).1.flatten.Perm (s :: d.flatten) := by
 unfold zW at h ⊢
 cases hb : (jM (yd x d s)).2 with
 | false => rw [hb] at h; cases h
 | true => exact JP (Y0 hb)
theorem V2 {x : Inst} {d : Day} {s : Stop} (h : (zW x d s).2 = false) : (zW x d s).1 = d := by
 unfold zW at h ⊢
 cases hb : (jM (yd x d s)).2 with
 | false => rfl
 | true => rw [hb] at h; cases h
theorem ZfX {x : Inst} {a b : zo} (h : a.Perm b) : yg x a = yg x b := by
 unfold yg
 have h1 : a.all (yC x) = b.all (yC x) := by
  rw [Bool.eq_iff_iff, List.all_eq_true, List.all_eq_true]
  exact ⟨fun q s hs => q s (h.symm.subset hs), fun q s hs => q s (h.subset hs)⟩
 have h2 : a.isEmpty = b.isEmpty := by
  cases a with
  | nil => rw [List.nil_perm.1 h]
  | cons a l =>
   cases b with
   | nil => exact absurd h.symm (by simp)
   | cons => rfl
 rw [h1, h2]
theorem Y1 {x : Inst} {t : zo} (h : yg x t = true) : t ≠ [] := by
 rintro rfl; simp [yg] at h
theorem JQ {x : Inst} {t : zo} (h : yg x t = false) : zr x t = 1 := by unfold zr; rw [if_pos h]
theorem V3 {x : Inst} {s : Stop} (h : zr x [s] ≠ 1) : yC x s = true := by
 cases hs : yg x [s] with
 | false => exact absurd (JQ hs) h
 | true => simpa [yg] using hs
theorem vn {x : Inst} {d : Day} : yc x d = 0 ↔ ∀ t ∈ d, zr x t = 0 := by
 unfold yc
 rw [List.length_eq_zero_iff, List.filter_eq_nil_iff]
 simp
theorem JR {x : Inst} {d : Day} {s : Stop} {b : Spot} (h : b ∈ yd x d s) : zH x (yT d b s) = 0 := by
 have hp := JP h
 obtain ⟨q1, q2, q3, q4, h⟩ := ZN h
 rw [jm]
 have hg := V3 q1
 have hn : ((yT d b s).flatten.map (·.c)).Nodup := by
  rw [(hp.map _).nodup_iff, List.map_cons, List.nodup_cons]
  exact ⟨q2, q3⟩
 refine ⟨?_, hn, ?_⟩
 ·rcases h with ⟨l, hl, hi, ho, hcap, hm, hlen⟩ | ⟨rfl, hb, hs, hv⟩
  ·obtain ⟨hlt, hle⟩ := List.getElem?_eq_some_iff.1 hl
   have hpd : yT d b s = d.set b.t (yH l b.p s) := by unfold yT; rw [if_neg (by omega), List.getD_eq_getElem?_getD, hl]; rfl
   -- the other tours
   have hoth : ∀ j m, j ≠ b.t → d[j]? = some m → zr x m = 0 := by
    intro j m hj hm'
    refine Classical.byContradiction fun hbad => ?_
    have h13 : 0 < yc x d := by
     rcases Nat.eq_zero_or_pos (yc x d) with e | e
     ·exact absurd (vn.1 e m (List.mem_of_getElem? hm')) hbad
     ·exact e
    by_cases hf : zr x l = 13
    ·rw [if_pos hf] at ho
     have h2 : 2 ≤ yc x d := by
      unfold yc
      obtain ⟨hjl, hje⟩ := List.getElem?_eq_some_iff.1 hm'
      have key : ∀ (i j : Nat), i < j → ∀ (a c : zo), d[i]? = some a → d[j]? = some c → zr x a ≠ 0 → zr x c ≠ 0 → 2 ≤ (d.filter fun t => decide (zr x t ≠ 0)).length := by
       intro i j hij a c ha hc na nc
       obtain ⟨hil, rfl⟩ := List.getElem?_eq_some_iff.1 ha
       obtain ⟨hjl, rfl⟩ := List.getElem?_eq_some_iff.1 hc
       have e : d = d.take (i + 1) ++ d.drop (i + 1) := (List.take_append_drop _ _).symm
       rw [e, List.filter_append, List.length_append]
       have m1 : d[i] ∈ (d.take (i + 1)).filter fun t => decide (zr x t ≠ 0) := List.mem_filter.2 ⟨List.mem_of_getElem? (i := i) (by rw [List.getElem?_take_of_lt (by omega)]; exact ha), by simp [na]⟩
       have m2 : d[j] ∈ (d.drop (i + 1)).filter fun t => decide (zr x t ≠ 0) := List.mem_filter.2 ⟨List.mem_of_getElem? (i := j - (i + 1)) (by rw [List.getElem?_drop, show i + 1 + (j - (i + 1)) = j from by omega]; exact hc), by simp [nc]⟩
       have := List.length_pos_of_mem m1
       have := List.length_pos_of_mem m2
       omega
      have nl : zr x l ≠ 0 := by rw [hf]; decide
      rcases Nat.lt_or_ge j b.t with h3 | h3
      ·exact key j b.t h3 m l hm' hl hbad nl
      ·exact key b.t j (by omega) l m hl hm' nl hbad
     omega
    ·rw [if_neg hf] at ho; omega
   -- the tour itself
   have hself : zr x l = 0 ∨ zr x l = 13 := by
    by_cases hf : zr x l = 13
    ·exact .inr hf
    ·rw [if_neg hf] at ho
     exact .inl (vn.1 (by omega) l (List.mem_of_getElem? hl))
   have hst : yg x l = true := by
    cases e : yg x l with
    | true => rfl
    | false => rw [JQ e] at hself; rcases hself with h | h <;> cases h
   have hne := Y1 hst
   intro t ht
   rw [hpd] at ht
   obtain ⟨j, hj⟩ := List.mem_iff_getElem?.1 ht
   rw [List.getElem?_set] at hj
   by_cases hjb : b.t = j
   ·rw [if_pos hjb, if_pos hlt] at hj
    cases hj
    rw [wJ]
    refine ⟨?_, ?_, ?_, ?_⟩
    ·rw [ZfX (ZP l s b.p)]
     unfold yg at hst ⊢
     simp only [List.all_cons, List.isEmpty_cons, Bool.and_eq_true] at hst ⊢
     exact ⟨⟨hg, hst.1⟩, rfl⟩
    ·have hsub : (yH l b.p s).Sublist (yT d b s).flatten := by rw [hpd]; exact jZ ht
     exact hn.sublist (hsub.map _)
    ·have := VZ l s b.p
     unfold yS at this
     rw [this]; exact hcap
    ·have := VY x l s b.p hne hi
     unfold yR at this
     rw [this, ← hm]; exact hlen
   ·rw [if_neg hjb] at hj
    exact hoth j t (fun e => hjb e.symm) hj
  ·unfold yT
   rw [if_pos rfl]
   intro t ht
   rw [List.mem_append] at ht
   rcases ht with ht | ht
   ·exact vn.1 hb t ht
   ·simp at ht; subst ht; exact hs
 ·rcases h with ⟨l, hl, -⟩ | ⟨rfl, -, -, hv⟩
  ·have hlt := (List.getElem?_eq_some_iff.1 hl).1
   unfold yT; rw [if_neg (by omega), List.length_set]; exact q4
  ·unfold yT; rw [if_pos rfl, List.length_append]; simp; omega
def yk (c : Int) (t : zo) : zo := t.filter fun s => decide (s.c ≠ c)
def yr (c : Int) (d : Day) : Day := (d.map (yk c)).filter fun t => !t.isEmpty
def JS (c : Int) (d : Day) : Int := W ((d.flatten.filter fun s => decide (s.c = c)).map (·.q)).sum
theorem ZfY (c : Int) (a b : Day) : yr c (a ++ b) = yr c a ++ yr c b := by simp [yr]
open Go Hp
theorem JI.begin : ∀ (l pre : List Stop) (T : Day) (g : Int → Option Int), JI pre T g → ((pre ++ l).map (·.c)).Nodup → ∃ g', JI (pre ++ l) (T ++ l.map fun s => [s]) g'
 | [], pre, T, g, h, _ => ⟨g, by simpa using h⟩
 | s :: l, pre, T, g, h, hn => by
  have hs : s.c ∉ pre.map (·.c) := by
   rw [List.map_append, List.nodup_append] at hn
   exact fun hm => hn.2.2 _ hm s.c (by simp) rfl
  obtain ⟨g', h'⟩ := JI.begin l (pre ++ [s]) (T ++ [[s]]) _ (h.snoc s hs) (by simpa using hn)
  exact ⟨g', by simpa using h'⟩
theorem uS {α : Type} (f : α → Int) : ∀ (T : List α) (i : Nat) (a b : α), T[i]? = some a → ((T.set i b).map f).sum = (T.map f).sum - f a + f b
 | [], i, a, b, h => by simp at h
 | t :: T, 0, a, b, h => by simp at h; subst h; simp; omega
 | t :: T, i + 1, a, b, h => by
  simp only [List.getElem?_cons_succ] at h
  simp only [List.set_cons_succ, List.map_cons, List.sum_cons]
  rw [uS f T i a b h]; omega
theorem ZfZ (x : Inst) : zB x [] = 0 := by simp [zB]
theorem Zf0 {x : Inst} {a b : List Int} {u v : Int} (hu : a[a.length - 1]? = some u) (hv : b[0]? = some v) : zB x (a ++ b) = zB x a + zB x b - qN x u v := by
 have ha : 0 < a.length := by
  have := (List.getElem?_eq_some_iff.1 hu).1; omega
 have h1 := ZeA x (a ++ b) (a.length - 1) u v (by rw [List.getElem?_append_left (by omega)]; exact hu) (by rw [Nat.sub_add_cancel ha, List.getElem?_append_right (Nat.le_refl _), Nat.sub_self]; exact hv)
 rw [Nat.sub_add_cancel ha, List.take_left', List.drop_left'] at h1
 ·exact h1
 ·rfl
 ·rfl
structure KI (x : Inst) (ss : List Stop) (C : Int) (st : Day × Int) : Prop where
 j : ∃ g, JI ss st.1 g
 may : ∀ t ∈ st.1, 1 < t.length → zr x t = 0
 num : st.2 ≤ x.veh
 cost : zA x st.1 ≤ C
theorem KI.step {x : Inst} {ss : List Stop} {C : Int} {st : Day × Int} (h : KI x ss C st) {p : Pr} (ha : p.a ∈ ss.map (·.c)) (hb : p.b ∈ ss.map (·.c)) (hs : p.s = qN x p.a p.b) : KI x ss C (yE x st p) := by
 obtain ⟨g, hI⟩ := h.j
 obtain ⟨i, a, sa, hia, hsa, hsac, hga, hpi⟩ := hI.there ha
 obtain ⟨k, b, sb, hkb, hsb, hsbc, hgb, hpk⟩ := hI.there hb
 have hgi : st.1.getD i [] = a := by rw [List.getD_eq_getElem?_getD, hia]; rfl
 have hgk : st.1.getD k [] = b := by rw [List.getD_eq_getElem?_getD, hkb]; rfl
 unfold yE uP
 rw [hpi, hpk, hgi, hgk]
 cases hc : yh x st.2 p i k a b with
 | false => exact h
 | true =>
  simp only [cond_true]
  unfold yh at hc
  simp only [Bool.and_eq_true, decide_eq_true_eq, Bool.not_eq_true', Bool.and_eq_false_iff, decide_eq_false_iff_not] at hc
  obtain ⟨⟨⟨⟨h1, h2⟩, h3⟩, h4⟩, h5⟩ := hc
  have hn := h.num
  have hpos : 0 < p.s := by rcases h4 with h4 | h4 <;> omega
  refine ⟨⟨_, hI.join hia hkb h1⟩, fun t ht hl => ?_, by simp only; omega, ?_⟩
  ·rcases List.mem_or_eq_of_mem_set ht with ht | ht
   ·rcases List.mem_or_eq_of_mem_set ht with ht | ht
    ·exact h.may t ht hl
    ·rw [ht]; exact h5
   ·rw [ht] at hl; simp at hl
  ·have hk2 : (st.1.set i (a ++ b))[k]? = some b := by rw [List.getElem?_set_ne h1]; exact hkb
   have e1 := uS (fun t : zo => zB x (t.map (·.c))) (st.1.set i (a ++ b)) k b [] hk2
   have e2 := uS (fun t : zo => zB x (t.map (·.c))) st.1 i a (a ++ b) hia
   have e3 := Zf0 (x := x) (a := a.map (·.c)) (b := b.map (·.c)) (u := p.a) (v := p.b) (by
    unfold wI at h2; rw [List.getElem?_map, List.length_map]; exact h2) (by unfold vk at h3; rw [List.getElem?_map]; exact h3)
   have hcst := h.cost
   unfold zA at hcst ⊢
   simp only [List.map_append, List.map_nil, ZfZ] at e1 e2
   rw [e3] at e2
   simp only
   omega
open Go Go.Proofs
theorem V4 {x : Inst} (h : yq x) : ∀ (l : List Int) (a : Int), 0 ≤ zY x a l ∧ zY x a l ≤ 2147483648 * ((l.length : Int) + 1)
 | [], a => by
  have := h a 0
  simp only [zY, List.length_nil]; omega
 | c :: l, a => by
  have h1 := h a (c + 1)
  have h2 := V4 h l (c + 1)
  simp only [zY, List.length_cons]; omega
theorem uj {x : Inst} (h : yq x) (l : List Int) : 0 ≤ zB x l ∧ zB x l ≤ 2147483648 * ((l.length : Int) + 1) := by
 unfold zB; split
 ·omega
 ·exact V4 h l 0
theorem Y2 {x : Inst} (h : yq x) : ∀ d : Day, 0 ≤ zA x d ∧ zA x d ≤ 2147483648 * ((d.flatten.length : Int) + d.length)
 | [] => by simp [zA]
 | t :: d => by
  have h1 := uj h (t.map (·.c))
  have h2 := Y2 h d
  unfold zA at h2 ⊢
  rw [List.length_map] at h1
  simp only [List.map_cons, List.sum_cons, List.flatten_cons, List.length_append, List.length_cons]; omega
theorem Y3 {x : Inst} (h : yq x) {d : Day} (h1 : d.flatten.length ≤ 1048576) (h2 : d.length ≤ 1048576) : W (zA x d) = zA x d := by
 have := Y2 h d
 exact wr _ (by omega) (by omega)
def qG (d : Day) : List (Nat × Nat) := (List.range (d.length + 1)).flatMap fun t => (List.range ((d.getD t []).length + 1)).map fun p => (t, p)
def yb (d : Day) (s : Stop) (c : Nat × Nat) : Day := yT d ⟨c.1, c.2, 0⟩ s
def vp (x : Inst) (d : Day) (s : Stop) (c : Nat × Nat) : Int := if c.1 = d.length then W (zB x [s.c]) else jl x (d.getD c.1 []) s c.2
def j5 (x : Inst) (d : Day) (s : Stop) (c : Nat × Nat) : Option Spot := if zH x (yb d s c) = 0 then some ⟨c.1, c.2, vp x d s c⟩ else none
theorem V5 (d : Day) (s : Stop) (b : Spot) : yT d b s = yb d s (b.t, b.p) := rfl
theorem Y4 {d : Day} {c : Nat × Nat} : c ∈ qG d ↔ c.1 ≤ d.length ∧ c.2 ≤ (d.getD c.1 []).length := by
 unfold qG
 rw [List.mem_flatMap]
 constructor
 ·rintro ⟨t, ht, hc⟩
  obtain ⟨p, hp, rfl⟩ := List.mem_map.1 hc
  rw [List.mem_range] at ht hp
  simp only; omega
 ·rintro ⟨h1, h2⟩
  exact ⟨c.1, List.mem_range.2 (by omega), List.mem_map.2 ⟨c.2, List.mem_range.2 (by omega), rfl⟩⟩
abbrev Y5 (x : Inst) (d : Day) (s : Stop) : Prop := zr x [s] = 1 ∨ s.c ∈ d.flatten.map (·.c) ∨ ¬ (d.flatten.map (·.c)).Nodup ∨ x.veh < d.length
theorem JT {d : Day} {s : Stop} {t p : Nat} {l : zo} (hl : d[t]? = some l) : yb d s (t, p) = d.set t (yH l p s) := by
 have hlt := (List.getElem?_eq_some_iff.1 hl).1
 unfold yb yT; rw [if_neg (by simp only; omega), List.getD_eq_getElem?_getD, hl]; rfl
theorem Y6 (d : Day) (s : Stop) (p : Nat) : yb d s (d.length, p) = d ++ [[s]] := by
 unfold yb yT; rw [if_pos rfl]
theorem V6 {d : Day} {s : Stop} {c : Nat × Nat} (hc : c ∈ qG d) : (yb d s c).flatten.Perm (s :: d.flatten) := by
 obtain ⟨t, p⟩ := c
 obtain ⟨h1, h2⟩ := Y4.1 hc
 simp only at h1 h2
 by_cases ht : t = d.length
 ·subst ht
  rw [Y6]
  simp only [List.flatten_append, List.flatten_cons, List.flatten_nil, List.append_nil]
  exact List.perm_append_comm
 ·have hl : d[t]? = some (d.getD t []) := by rw [List.getD_eq_getElem?_getD, List.getElem?_eq_getElem (by omega)]; rfl
  rw [JT hl]
  exact JO d t _ _ s hl (ZP _ s p)
theorem Zf1 (d : Day) (s : Stop) (c : Nat × Nat) : d.length ≤ (yb d s c).length ∧ (yb d s c).length ≤ d.length + 1 := by
 unfold yb yT
 split
 ·simp
 ·simp
theorem Zf2 {x : Inst} {d : Day} {s : Stop} (hd : zH x d = 0) {c : Nat × Nat} (hc : c ∈ qG d) (h : zH x (yb d s c) = 0) : ¬ Y5 x d s := by
 have hp := V6 (s := s) hc
 obtain ⟨g1, g2, g3⟩ := (jm x _).1 h
 obtain ⟨e1, e2, e3⟩ := (jm x _).1 hd
 rw [(hp.map _).nodup_iff, List.map_cons, List.nodup_cons] at g2
 rintro (q | q | q | q)
 ·obtain ⟨u, hu, hsu⟩ := List.mem_flatten.1 (hp.symm.subset (List.mem_cons_self (a := s)))
  have hm := ((wJ x u).1 (g1 u hu)).1
  unfold yg at hm
  simp only [Bool.and_eq_true, List.all_eq_true] at hm
  have hgs := hm.1 s hsu
  have : zr x [s] ≠ 1 := by
   unfold zr yg
   rw [if_neg (by simp [hgs])]
   split
   ·decide
   ·split
    ·decide
    ·split <;> decide
  exact this q
 ·exact g2.1 q
 ·exact q e2
 ·omega
theorem V7 {x : Inst} {d : Day} {s : Stop} (hd : zH x d = 0) (ho : ¬ Y5 x d s) {t p : Nat} {l : zo} (hl : d[t]? = some l) (hp : p ≤ l.length) :
  zH x (yb d s (t, p)) = 0 ↔ W (yS l + s.q) ≤ x.cap ∧ W (yR x l + jl x l s p) ≤ x.len := by
 obtain ⟨e1, e2, e3⟩ := (jm x _).1 hd
 have hlm := List.mem_of_getElem? hl
 have hlt := (List.getElem?_eq_some_iff.1 hl).1
 have hm0 := e1 l hlm
 have hne : l ≠ [] := Y1 ((wJ x l).1 hm0).1
 have hb : yc x d = 0 := vn.2 e1
 have hg : d.getD t [] = l := by rw [List.getD_eq_getElem?_getD, hl]; rfl
 constructor
 ·intro h
  obtain ⟨g1, -, -⟩ := (jm x _).1 h
  rw [JT hl] at g1
  have := g1 (yH l p s) (List.mem_of_getElem? (i := t) (by simp [hlt]))
  obtain ⟨-, -, a, b⟩ := (wJ x _).1 this
  have ha := VZ l s p
  have hw := VY x l s p hne hp
  unfold yS at ha
  unfold yR at hw
  rw [ha] at a; rw [hw] at b
  exact ⟨a, b⟩
 ·rintro ⟨a, b⟩
  have hmem : (⟨t, p, jl x l s p⟩ : Spot) ∈ yd x d s := by
   unfold yd
   rw [if_neg ho]
   refine List.mem_append_left _ (List.mem_flatMap.2 ⟨t, List.mem_range.2 hlt, ?_⟩)
   rw [hg, hb, hm0]
   unfold xq
   rw [if_neg (by simp; omega)]
   refine List.mem_filterMap.2 ⟨p, List.mem_range.2 (by omega), ?_⟩
   unfold jX; rw [if_pos b]
  have := JR hmem
  rwa [V5] at this
theorem Zf3 {x : Inst} {d : Day} {s : Stop} (hd : zH x d = 0) (ho : ¬ Y5 x d s) : zH x (yb d s (d.length, 0)) = 0 ↔ zr x [s] = 0 ∧ (d.length : Int) < x.veh := by
 obtain ⟨e1, e2, e3⟩ := (jm x _).1 hd
 have hb : yc x d = 0 := vn.2 e1
 constructor
 ·intro h
  obtain ⟨g1, -, g3⟩ := (jm x _).1 h
  rw [Y6] at g1 g3
  rw [List.length_append] at g3
  simp at g3
  exact ⟨g1 [s] (by simp), by omega⟩
 ·rintro ⟨a, b⟩
  have hmem : (⟨d.length, 0, W (zB x [s.c])⟩ : Spot) ∈ yd x d s := by
   unfold yd
   rw [if_neg ho, if_pos ⟨hb, a, b⟩]
   exact List.mem_append_right _ (by simp)
  have := JR hmem
  rwa [V5] at this
theorem V8 {α β : Type} {f : α → Option β} {l : List α} (h : ∀ a ∈ l, f a = none) : l.filterMap f = [] := by
 rw [List.filterMap_eq_nil_iff]; exact h
theorem V9 {α β : Type} {f g : α → List β} : ∀ {l : List α}, (∀ a ∈ l, f a = g a) → l.flatMap f = l.flatMap g
 | [], _ => rfl
 | a :: l, h => by rw [List.flatMap_cons, List.flatMap_cons, h a (by simp), V9 fun b hb => h b (by simp [hb])]
theorem Zaa {α β : Type} {f g : α → Option β} : ∀ {l : List α}, (∀ a ∈ l, f a = g a) → l.filterMap f = l.filterMap g
 | [], _ => rfl
 | a :: l, h => by
  have ih := Zaa (f := f) (g := g) (l := l) fun b hb => h b (by simp [hb])
  rw [List.filterMap_cons, List.filterMap_cons, h a (by simp), ih]
def wK (x : Inst) (d : Day) (s : Stop) (t : Nat) : List Spot := ((List.range ((d.getD t []).length + 1)).map fun p => (t, p)).filterMap (j5 x d s)
theorem Zab {x : Inst} {d : Day} {s : Stop} (hd : zH x d = 0) : yd x d s = (List.range (d.length + 1)).flatMap (wK x d s) := by
 by_cases ho : Y5 x d s
 ·unfold yd
  rw [if_pos ho]
  symm
  rw [List.flatMap_eq_nil_iff]
  intro t ht
  rw [List.mem_range] at ht
  refine V8 fun c hc => ?_
  obtain ⟨p, hp, rfl⟩ := List.mem_map.1 hc
  rw [List.mem_range] at hp
  unfold j5
  rw [if_neg]
  intro h
  exact Zf2 hd (Y4.2 ⟨by simp only; omega, by simp only; omega⟩) h ho
 ·unfold yd
  obtain ⟨e1, e2, e3⟩ := (jm x _).1 hd
  have hb : yc x d = 0 := vn.2 e1
  rw [if_neg ho, List.range_succ, List.flatMap_append]
  congr 1
  ·refine V9 fun t ht => ?_
   rw [List.mem_range] at ht
   have hl : d[t]? = some (d.getD t []) := by rw [List.getD_eq_getElem?_getD, List.getElem?_eq_getElem ht]; rfl
   have hm0 := e1 _ (List.mem_of_getElem? hl)
   unfold wK xq
   rw [hm0, hb, List.filterMap_map]
   by_cases hcap : x.cap < W (yS (d.getD t []) + s.q)
   ·rw [if_pos (.inr hcap)]
    symm
    refine V8 fun p hp => ?_
    rw [List.mem_range] at hp
    simp only [Function.comp_apply]
    unfold j5
    rw [if_neg]
    rw [V7 hd ho hl (by omega)]
    omega
   ·rw [if_neg (show ¬ (0 < ((0 : Nat) : Int) - (if (0 : Int) = 13 then 1 else 0) ∨ x.cap < W (yS (d.getD t []) + s.q)) from by rintro (q | q); exact absurd q (by decide); exact hcap q)]
    refine Zaa fun p hp => ?_
    rw [List.mem_range] at hp
    simp only [Function.comp_apply]
    have hi := V7 (p := p) hd ho hl (by omega)
    unfold j5 jX vp
    simp only
    rw [if_neg (show ¬ t = d.length by omega)]
    by_cases hw : W (yR x (d.getD t []) + jl x (d.getD t []) s p) ≤ x.len
    ·rw [if_pos hw, if_pos (hi.2 ⟨by omega, hw⟩)]
    ·rw [if_neg hw, if_neg fun e => hw (hi.1 e).2]
  ·have hi := Zf3 hd ho
   simp only [List.flatMap_cons, List.flatMap_nil, List.append_nil]
   unfold wK
   rw [show d.getD d.length [] = ([] : zo) from by rw [List.getD_eq_getElem?_getD, List.getElem?_eq_none (Nat.le_refl _)]; rfl]
   simp only [List.length_nil, Nat.zero_add, List.range_one, List.map_cons, List.map_nil, List.filterMap_cons, List.filterMap_nil]
   unfold j5 vp
   simp only [if_true]
   by_cases hc : zr x [s] = 0 ∧ (d.length : Int) < x.veh
   ·rw [if_pos ⟨hb, hc⟩, if_pos (hi.2 hc)]
   ·rw [if_neg fun e => hc e.2, if_neg fun e => hc (hi.1 e)]
theorem Zac {α β γ : Type} (f : α → List β) (g : β → Option γ) : ∀ l : List α, (l.flatMap f).filterMap g = l.flatMap fun a => (f a).filterMap g
 | [] => rfl
 | a :: l => by rw [List.flatMap_cons, List.filterMap_append, Zac f g l, List.flatMap_cons]
theorem Zad {x : Inst} {d : Day} {s : Stop} (hd : zH x d = 0) : yd x d s = (qG d).filterMap (j5 x d s) := by
 rw [Zab hd]; unfold qG; rw [Zac]; rfl
theorem Zf4 {x : Inst} (h : yq x) (l : zo) (s : Stop) (p : Nat) : jl x l s p = arc x (ahZ l p) (s.c + 1) + arc x (s.c + 1) (beZ l p) - arc x (ahZ l p) (beZ l p) := by
 unfold jl
 have h1 := h (ahZ l p) (s.c + 1)
 have h2 := h (s.c + 1) (beZ l p)
 have h3 := h (ahZ l p) (beZ l p)
 rw [show W (arc x (ahZ l p) (s.c + 1) + arc x (s.c + 1) (beZ l p)) = arc x (ahZ l p) (s.c + 1) + arc x (s.c + 1) (beZ l p) from wr _ (by omega) (by omega)]
 exact wr _ (by omega) (by omega)
theorem Zae {x : Inst} (h : yq x) {d : Day} {s : Stop} {c : Nat × Nat} (hc : c ∈ qG d) (hne : ∀ t ∈ d, t ≠ []) : zA x (yb d s c) = zA x d + vp x d s c := by
 obtain ⟨t, p⟩ := c
 obtain ⟨h1, h2⟩ := Y4.1 hc
 simp only at h1 h2
 unfold vp
 by_cases ht : t = d.length
 ·subst ht
  rw [Y6, Jk]
  simp only [if_true, List.map_cons, List.map_nil]
  have := uj h [s.c]
  simp only [List.length_cons, List.length_nil] at this
  rw [show W (zB x [s.c]) = zB x [s.c] from wr _ (by omega) (by omega)]
 ·have hl : d[t]? = some (d.getD t []) := by rw [List.getD_eq_getElem?_getD, List.getElem?_eq_getElem (by omega)]; rfl
  rw [JT hl, if_neg (by simpa using ht)]
  unfold zA
  rw [uS (fun t : zo => zB x (t.map (·.c))) d t _ _ hl, Zf4 h, VX x _ s p (hne _ (List.mem_of_getElem? hl)) h2]
  simp only
  omega
def j6 (x : Inst) (d : Day) (s : Stop) (st : Day × Bool) (c : Nat × Nat) : Day × Bool :=
 if zH x (yb d s c) = 0 then (if st.2 = false ∨ W (zA x (yb d s c)) < W (zA x st.1) then (yb d s c, true) else st) else st
def ZQ (x : Inst) (d : Day) (s : Stop) : Day × Bool := (qG d).foldl (j6 x d s) (d, false)
theorem JU {d : Day} {s : Stop} (h1 : d.length ≤ 1000000) (h2 : d.flatten.length ≤ 1000000) {c : Nat × Nat} (hc : c ∈ qG d) : (yb d s c).flatten.length ≤ 1048576 ∧ (yb d s c).length ≤ 1048576 := by
 have e := (V6 (s := s) hc).length_eq
 have e2 := Zf1 d s c
 rw [List.length_cons] at e
 omega
theorem JV {x : Inst} (h : yq x) {d : Day} {s : Stop} (hne : ∀ t ∈ d, t ≠ []) (h1 : d.length ≤ 1000000) (h2 : d.flatten.length ≤ 1000000) : ∀ (l : List (Nat × Nat)) (st : Day × Bool) (bt : Spot × Bool), (∀ c ∈ l, c ∈ qG d) →
  (st.2 = bt.2 ∧ (bt.2 = false → st.1 = d) ∧ (bt.2 = true → (bt.1.t, bt.1.p) ∈ qG d ∧ st.1 = yb d s (bt.1.t, bt.1.p) ∧ bt.1.m = vp x d s (bt.1.t, bt.1.p))) →
  l.foldl (j6 x d s) st = (bif ((l.filterMap (j5 x d s)).foldl j4 bt).2 then (yT d ((l.filterMap (j5 x d s)).foldl j4 bt).1 s, true) else (d, false))
 | [], st, bt, _, hst => by
  obtain ⟨a, b⟩ := st
  obtain ⟨e1, e2, e3⟩ := hst
  simp only at e1 e2 e3
  simp only [List.foldl_nil, List.filterMap_nil]
  cases hb : bt.2 with
  | false => rw [hb] at e1; rw [e1, e2 hb]; rfl
  | true => rw [hb] at e1; rw [e1, (e3 hb).2.1]; rfl
 | c :: l, st, bt, hl, hst => by
  have hc := hl c (by simp)
  have hl' : ∀ c ∈ l, c ∈ qG d := fun q hq => hl q (by simp [hq])
  rw [List.foldl_cons, List.filterMap_cons]
  by_cases h0 : zH x (yb d s c) = 0
  ·have hcs : j5 x d s c = some ⟨c.1, c.2, vp x d s c⟩ := by unfold j5; rw [if_pos h0]
   rw [hcs]
   simp only [List.foldl_cons]
   refine JV h hne h1 h2 l _ _ hl' ?_
   obtain ⟨e1, e2, e3⟩ := hst
   unfold j6 j4
   rw [if_pos h0]
   have hcmp : (st.2 = false ∨ W (zA x (yb d s c)) < W (zA x st.1)) ↔ (bt.2 = false ∨ vp x d s c < bt.1.m) := by
    rw [e1]
    cases hb : bt.2 with
    | false => simp
    | true =>
     obtain ⟨q1, q2, q3⟩ := e3 hb
     have b1 := JU (s := s) h1 h2 hc
     have b2 := JU (s := s) h1 h2 q1
     rw [q2, Y3 h b1.1 b1.2, Y3 h b2.1 b2.2, Zae h hc hne, Zae h q1 hne, q3]
     simp only [Bool.true_eq_false, false_or]
     omega
   by_cases hq : st.2 = false ∨ W (zA x (yb d s c)) < W (zA x st.1)
   ·rw [if_pos hq, if_pos (hcmp.1 hq)]
    exact ⟨rfl, (fun e => by cases e), fun _ => ⟨hc, rfl, rfl⟩⟩
   ·rw [if_neg hq, if_neg fun e => hq (hcmp.2 e)]
    exact ⟨e1, e2, e3⟩
  ·have hcs : j5 x d s c = none := by unfold j5; rw [if_neg h0]
   rw [hcs]
   unfold j6
   rw [if_neg h0]
   exact JV h hne h1 h2 l _ _ hl' hst
theorem Y7 {x : Inst} {d : Day} (h : zH x d = 0) : ∀ t ∈ d, t ≠ [] := fun t ht => Y1 ((wJ x t).1 (((jm x d).1 h).1 t ht)).1
theorem Zf5 {x : Inst} (h : yq x) {d : Day} {s : Stop} (hd : zH x d = 0) (h1 : d.length ≤ 1000000) (h2 : d.flatten.length ≤ 1000000) : ZQ x d s = zW x d s := by
 unfold ZQ zW jM
 rw [JV h (Y7 hd) h1 h2 (qG d) (d, false) (⟨0, 0, 0⟩, false) (fun _ h => h) ⟨rfl, fun _ => rfl, fun e => by cases e⟩, Zad hd]
def vq (st : Int × Bool) (m : Int) : Int × Bool := if st.2 = false ∨ m < st.1 then (m, true) else st
def vr (l : List Int) : Int × Bool := l.foldl vq (0, false)
def uT (x : Inst) (d : Day) (s : Stop) (n : Nat) : List Int := (List.range n).filterMap fun t => bif (vr ((wK x d s t).map (·.m))).2 then some (vr ((wK x d s t).map (·.m))).1 else none
def uU (x : Inst) (d : Day) (s : Stop) : List Int := zZ (uT x d s (d.length + 1))
theorem JW : ∀ (l : List Int) (m : Int), (l.foldl vq (m, true)).2 = true
 | [], _ => rfl
 | a :: l, m => by
  rw [List.foldl_cons]
  unfold vq
  split
  ·exact JW l a
  ·exact JW l m
theorem Zf6 : vr [] = (0, false) := rfl
theorem Zf7 (a : Int) (l : List Int) : vr (a :: l) = l.foldl vq (a, true) := by
 unfold vr; rw [List.foldl_cons]; unfold vq; simp
def qX (st : List Int × Int) (p : Spot) : List Int × Int :=
 if (p.t : Int) ≠ st.2 then (st.1 ++ [p.m], (p.t : Int)) else (st.1.set (st.1.length - 1) (if p.m < st.1.getD (st.1.length - 1) 0 then p.m else st.1.getD (st.1.length - 1) 0), st.2)
theorem Zaf (t : Nat) : ∀ (g : List Spot) (l : List Int) (m : Int), (∀ p ∈ g, p.t = t) → g.foldl qX (l ++ [m], (t : Int)) = (l ++ [((g.map (·.m)).foldl vq (m, true)).1], (t : Int))
 | [], l, m, _ => rfl
 | p :: g, l, m, h => by
  have hp := h p (by simp)
  have hs : qX (l ++ [m], (t : Int)) p = (l ++ [if p.m < m then p.m else m], (t : Int)) := by
   unfold qX
   rw [hp, if_neg (by simp)]
   simp
  have hm : vq (m, true) p.m = (if p.m < m then p.m else m, true) := by
   unfold vq
   by_cases q : p.m < m <;> simp [q]
  rw [List.foldl_cons, hs, List.map_cons, List.foldl_cons, hm]
  exact Zaf t g l _ fun q hq => h q (by simp [hq])
theorem Zf8 {t : Nat} {g : List Spot} (hg : ∀ p ∈ g, p.t = t) (l : List Int) (last : Int) (hl : last < t) :
  g.foldl qX (l, last) = (l ++ (bif (vr (g.map (·.m))).2 then [(vr (g.map (·.m))).1] else []), if g = [] then last else (t : Int)) := by
 cases g with
 | nil => simp [Zf6]
 | cons p g =>
  have hp := hg p (by simp)
  have hs : qX (l, last) p = (l ++ [p.m], (t : Int)) := by
   unfold qX; rw [hp, if_pos (by simp only [ne_eq]; omega)]
  rw [List.foldl_cons, hs, Zaf t g l p.m fun q hq => hg q (by simp [hq]), List.map_cons, Zf7, JW]
  simp
theorem Zf9 {x : Inst} {d : Day} {s : Stop} {t : Nat} : ∀ p ∈ wK x d s t, p.t = t := by
 intro b hb
 unfold wK at hb
 obtain ⟨c, hc, he⟩ := List.mem_filterMap.1 hb
 obtain ⟨p, -, rfl⟩ := List.mem_map.1 hc
 unfold j5 at he
 split at he
 ·cases he; rfl
 ·cases he
theorem Zag (x : Inst) (d : Day) (s : Stop) : ∀ n : Nat, ∃ last : Int, last < n ∧ ((List.range n).flatMap (wK x d s)).foldl qX ([], -1) = (uT x d s n, last)
 | 0 => ⟨-1, by omega, rfl⟩
 | n + 1 => by
  obtain ⟨last, h1, h2⟩ := Zag x d s n
  rw [List.range_succ, List.flatMap_append, List.foldl_append, h2]
  simp only [List.flatMap_cons, List.flatMap_nil, List.append_nil]
  rw [Zf8 Zf9 _ _ h1]
  refine ⟨_, ?_, by
   congr 1
   unfold uT
   rw [List.range_succ, List.filterMap_append]
   congr 1
   cases hm : (vr ((wK x d s n).map (·.m))).2 <;> simp [hm]⟩
  split <;> omega
theorem Zga {x : Inst} {d : Day} {s : Stop} (hd : zH x d = 0) : ((yd x d s).foldl qX ([], -1)).1 = uT x d s (d.length + 1) := by
 rw [Zab hd]
 obtain ⟨last, -, h⟩ := Zag x d s (d.length + 1)
 rw [h]
open Go Go.Proofs
def qH (l : zo) (b : Bool) (p : Nat) (s : Stop) (i : Nat) : zo := (List.range i).flatMap fun q => (if b = true ∧ q = p then [s] else []) ++ (if q < l.length then [l.getD q default] else [])
theorem Y8 (l : zo) (b : Bool) (p : Nat) (s : Stop) (i : Nat) : qH l b p s (i + 1) = qH l b p s i ++ (if b = true ∧ i = p then [s] else []) ++ (if i < l.length then [l.getD i default] else []) := by
 unfold qH; rw [List.range_succ, List.flatMap_append]; simp
theorem Y9 (l : zo) (i : Nat) : l.take i ++ (if i < l.length then [l.getD i default] else []) = l.take (i + 1) := by
 by_cases h : i < l.length
 ·rw [if_pos h, List.take_succ_eq_append_getElem h, List.getD_eq_getElem?_getD, List.getElem?_eq_getElem h]; rfl
 ·rw [if_neg h, List.append_nil, List.take_of_length_le (by omega), List.take_of_length_le (by omega)]
theorem Zah (l : zo) (b : Bool) (p : Nat) (s : Stop) (hp : p ≤ l.length) : ∀ i, qH l b p s i = if b = true ∧ p < i then l.take p ++ s :: (l.drop p).take (i - p) else l.take i
 | 0 => by simp [qH]
 | i + 1 => by
  rw [Y8, Zah l b p s hp i]
  by_cases hb : b = true
  ·rcases Nat.lt_trichotomy i p with h | h | h
   ·rw [if_neg (show ¬ (b = true ∧ p < i) from fun e => by omega), if_neg (show ¬ (b = true ∧ i = p) from fun e => by omega), if_neg (show ¬ (b = true ∧ p < i + 1) from fun e => by omega), List.append_nil, Y9]
   ·subst h
    rw [if_neg (show ¬ (b = true ∧ i < i) from fun e => by omega), if_pos (show b = true ∧ i = i from ⟨hb, rfl⟩), if_pos (show b = true ∧ i < i + 1 from ⟨hb, by omega⟩), show i + 1 - i = 1 by omega]
    by_cases hl : i < l.length
    ·rw [if_pos hl, List.drop_eq_getElem_cons hl, List.getD_eq_getElem?_getD, List.getElem?_eq_getElem hl, List.append_assoc]; rfl
    ·rw [if_neg hl, List.drop_of_length_le (by omega)]; simp
   ·have := Y9 (l.drop p) (i - p)
    rw [List.length_drop] at this
    rw [if_pos (show b = true ∧ p < i from ⟨hb, h⟩), if_neg (show ¬ (b = true ∧ i = p) from fun e => by omega), if_pos (show b = true ∧ p < i + 1 from ⟨hb, by omega⟩), List.append_nil, List.append_assoc, List.cons_append, show i + 1 - p = i - p + 1 by omega, ← this]
    by_cases hl : i < l.length
    ·rw [if_pos hl, if_pos (show i - p < l.length - p by omega), List.getD_eq_getElem?_getD, List.getD_eq_getElem?_getD, List.getElem?_drop, show p + (i - p) = i by omega]
    ·rw [if_neg hl, if_neg (show ¬ i - p < l.length - p by omega)]
  ·rw [if_neg (show ¬ (b = true ∧ p < i) from fun e => hb e.1), if_neg (show ¬ (b = true ∧ i = p) from fun e => hb e.1), if_neg (show ¬ (b = true ∧ p < i + 1) from fun e => hb e.1), List.append_nil, Y9]
theorem Zai (l : zo) (b : Bool) (p : Nat) (s : Stop) : ∀ i, (qH l b p s i).length ≤ 2 * i
 | 0 => by simp [qH]
 | i + 1 => by
  have := Zai l b p s i
  rw [Y8, List.length_append, List.length_append]
  split <;> split <;> simp <;> omega
theorem Zgb (l : zo) (b : Bool) (p : Nat) (s : Stop) (hp : p ≤ l.length) : qH l b p s (l.length + 1) = if b = true then yH l p s else l := by
 rw [Zah l b p s hp]
 cases b with
 | true => rw [if_pos ⟨rfl, by omega⟩, if_pos rfl, List.take_of_length_le (l := l.drop p) (by rw [List.length_drop]; omega)]; rfl
 | false => rw [if_neg (by simp), if_neg (by simp), List.take_of_length_le (by omega)]
def qI (d : Day) (t p : Nat) (s : Stop) (j : Nat) : Day := (List.range j).map fun i => if i = t then yH (d.getD i []) p s else d.getD i []
theorem Zgc (d : Day) (t p : Nat) (s : Stop) (j : Nat) : qI d t p s (j + 1) = qI d t p s j ++ [if j = t then yH (d.getD j []) p s else d.getD j []] := by
 unfold qI; rw [List.range_succ, List.map_append]; rfl
theorem Zaj (d : Day) (t p : Nat) (s : Stop) (j : Nat) : (qI d t p s j).length = j := by simp [qI]
theorem Zgd (d : Day) (t p : Nat) (s : Stop) : qI d t p s d.length = d.set t (yH (d.getD t []) p s) := by
 apply List.ext_getElem?
 intro j
 unfold qI
 rw [List.getElem?_map, List.getElem?_set]
 by_cases hj : j < d.length
 ·rw [List.getElem?_range hj]
  simp only [Option.map_some]
  by_cases h : t = j
  ·subst h; rw [if_pos rfl, if_pos rfl, if_pos hj]
  ·rw [if_neg (fun e => h e.symm), if_neg h, List.getElem?_eq_getElem hj, List.getD_eq_getElem?_getD, List.getElem?_eq_getElem hj]; rfl
 ·rw [List.getElem?_eq_none (by simp; omega)]
  by_cases h : t = j
  ·subst h; rw [if_pos rfl, if_neg hj]; rfl
  ·rw [if_neg h, List.getElem?_eq_none (by omega)]; rfl
theorem Zge {d : Day} {t p : Nat} {s : Stop} (ht : t ≤ d.length) : qI d t p s d.length ++ (if t = d.length then [[s]] else []) = yb d s (t, p) := by
 rw [Zgd]
 by_cases h : t = d.length
 ·subst h
  rw [if_pos rfl, Y6, List.set_eq_of_length_le (Nat.le_refl _)]
 ·rw [if_neg h, List.append_nil]
  unfold yb yT
  rw [if_neg (by simpa using h)]
set_option maxRecDepth 20000 in
set_option maxHeartbeats 1600000 in
theorem Zgf (d : Day) (t p : Nat) (s : Stop) (hd0 : d.length ≤ 1000000) (hd1 : ∀ l ∈ d, l.length ≤ 1000000) (ht : t ≤ d.length) (hp : p ≤ (d.getD t []).length) : Pure Tryz.prog 113 [.agg [L d], I t, I p, .agg [I s.c, I s.q]] (.agg [L (yb d s (t, p))]) := by
 rw [← Zge ht]
 refine pwe Tryz.func113 Tryz.ntmps113 Tryz.results113 fun S nx hd => ?_
 repeat apply za
 refine pwn ?_
 intro v0 v1 v2
 repeat apply za
 refine pwn ?_
 intro v3
 refine qa 3 0 72 1 rfl rfl fun v4 => ?_
 (repeat apply za); refine pwn ?_; intros
 repeat apply za
 refine ze (zq (fun s' : Nat × Nat => s'.1 ≤ d.length) (fun (j, v4) => [(1, I t), (2, I p), (4, .ptr nx v0 0), (7, .ptr (nx + 1) v1 0), (8, .ptr (nx + 2) v2 0), (9, .ptr (nx + 3) v3 0), (10, I j)]) (fun (j, v4) => [.cells v0 66 [L d], .cells v1 50 [I s.c, I s.q], .cells v2 66 [zS], .cells v3 66 [.sl (nx + 4) v4 1 0 j], .cells v4 72 ((qI d t p s j).flatMap Enc.enc)]) (fun s' => d.length - s'.1) (0, v4) [] (by simp) (by simp) (by simp [qI]) ?_)
 rintro ⟨j, v4⟩ hj
 simp only at hj ⊢
 (repeat apply za); refine pwn ?_; intros
 repeat apply za
 refine zl rfl (fun hc => ?_) (fun hc => ?_)
 ·simp at hc
  obtain ⟨l, tl, a1, a2, a3, e0⟩ := el1 rfl d j hc
  have hj1 : 1 ≤ d.length - j := by omega
  have hlm := List.mem_of_getElem? a1
  have hln := hd1 l hlm
  have hgl : d.getD j [] = l := by rw [List.getD_eq_getElem?_getD, a1]; rfl
  obtain ⟨b, hb⟩ : ∃ b, b = decide (j = t) := ⟨_, rfl⟩
  have hps := Zgc d t p s j
  have hpp : b = true → p ≤ l.length := fun e => by
   have e : j = t := of_decide_eq_true (hb ▸ e)
   rw [← e, hgl] at hp; exact hp
  have hall : qH l b p s (l.length + 1) = if j = t then yH (d.getD j []) p s else d.getD j [] := by
   rw [hgl]
   cases hbb : b with
   | true =>
    rw [Zgb l true p s (hpp hbb), if_pos rfl]
    rw [hbb] at hb
    rw [if_pos (of_decide_eq_true hb.symm)]
   | false =>
    have key : ∀ i, qH l false p s i = l.take i := by
     intro i
     induction i with
     | zero => simp [qH]
     | succ i ih => rw [Y8, ih, if_neg (by simp), List.append_nil, Y9]
    rw [key, List.take_of_length_le (by omega)]
    rw [hbb] at hb
    rw [if_neg (of_decide_eq_false hb.symm)]
  rw [← hall] at hps
  have hpl := Zaj d t p s j
  have hps2 : ((qI d t p s (j + 1)).flatMap Enc.enc : List PV) = (qI d t p s j).flatMap Enc.enc ++ [L (qH l b p s (l.length + 1))] := by rw [hps, List.flatMap_append]; rfl
  have hpf : ((qI d t p s j).flatMap Enc.enc : List PV).length = j := by rw [qm, hpl]
  have hpt : ((qI d t p s j).flatMap Enc.enc : List PV).take j = (qI d t p s j).flatMap Enc.enc := List.take_of_length_le (by omega)
  clear hps hpl hall
  have hfz : ∀ id v cs, ((qI d t p s j).flatMap Enc.enc).map (yo id v cs) = ((qI d t p s j).flatMap Enc.enc : List PV) := fun id v cs => ZcO id v cs _
  generalize ((qI d t p s j).flatMap Enc.enc : List PV) = pcs at *
  refine zd (za (ze ?_))
  (repeat apply za); refine pwn ?_; intros
  refine yA 11 50 2 rfl fun v5 => ?_
  (repeat apply za); refine pwn ?_; intros
  repeat apply za
  refine ze (zq (fun s' : Nat × Nat => s'.1 ≤ l.length + 1) (fun (i, v5) => [(1, I t), (2, I p), (4, .ptr nx v0 0), (7, .ptr (nx + 1) v1 0), (8, .ptr (nx + 2) v2 0), (9, .ptr (nx + 3) v3 0), (10, I j), (11, .sl (nx + 5) v5 2 0 (qH l b p s i).length), (12, I i)]) (fun (i, v5) => [.cells v0 66 [L d], .cells v1 50 [I s.c, I s.q], .cells v2 66 [zS], .cells v3 66 [.sl (nx + 4) v4 1 0 j], .cells v4 72 pcs, .cells v5 50 ((qH l b p s i).flatMap Enc.enc)]) (fun s' => l.length + 1 - s'.1) (0, v5) [] (by simp) (by simp [qH]) (by simp [qH]) ?_)
  rintro ⟨i, v5⟩ hi
  simp only at hi ⊢
  repeat apply za
  refine pwN [] (jn3 e0 hc hj1) ?_
  intros
  repeat apply za
  refine zl rfl (fun hci => ?_) (fun hci => ?_)
  ·simp at hci
   have hrl := Zai l b p s i
   have hrs := Y8 l b p s i
   generalize qH l b p s i = r0 at *
   have wi := wrN i (by omega)
   have hrf : (r0.flatMap Enc.enc : List PV).length = r0.length * 2 := xi r0
   have hrt : (r0.flatMap Enc.enc : List PV).take (r0.length * 2) = r0.flatMap Enc.enc := List.take_of_length_le (by omega)
   refine zd (za (ze ?_))
   repeat apply za
   refine zR (nx := nx) (fun b' : Bool => b' = decide (b = true ∧ i = p)) (fun b' => [(1, I t), (2, I p), (4, .ptr nx v0 0), (7, .ptr (nx + 1) v1 0), (8, .ptr (nx + 2) v2 0), (9, .ptr (nx + 3) v3 0), (10, I j), (11, .sl (nx + 5) v5 2 0 r0.length), (12, I i), (38, B b')]) (fun _ => S) (fun _ => [.cells v0 66 [L d], .cells v1 50 [I s.c, I s.q], .cells v2 66 [zS], .cells v3 66 [.sl (nx + 4) v4 1 0 j], .cells v4 72 pcs, .cells v5 50 (r0.flatMap Enc.enc)]) ?_ ?_
   ·by_cases h1 : j = t
    ·subst h1
     by_cases h2 : i = p
     ·subst h2
      repeat apply za
      refine pwN [(3, 34)] zn ?_
      intros
      exact zt _ [] rfl (by simp [hb]) rfl (by simp)
     ·have h2' : ¬ (i : Int) = p := by omega
      repeat apply za
      refine pwN [(3, 34)] h2' ?_
      intros
      exact zt _ [] rfl (by simp [hb, h2]) rfl (by simp)
    ·have h1' : ¬ (j : Int) = t := by omega
     repeat apply za
     refine pwN [(3, 34)] (jn2 h1' zn) ?_
     intros
     exact zt _ [] rfl (by simp [hb, h1]) rfl (by simp)
   ·rintro b' hb'
    repeat apply za
    refine zR (nx := nx) (fun s' : zo × Nat => s'.1 = r0 ++ (if b = true ∧ i = p then [s] else [])) (fun (r, v5) => [(1, I t), (2, I p), (4, .ptr nx v0 0), (7, .ptr (nx + 1) v1 0), (8, .ptr (nx + 2) v2 0), (9, .ptr (nx + 3) v3 0), (10, I j), (11, .sl (nx + 5) v5 2 0 r.length), (12, I i)]) (fun _ => S) (fun (r, v5) => [.cells v0 66 [L d], .cells v1 50 [I s.c, I s.q], .cells v2 66 [zS], .cells v3 66 [.sl (nx + 4) v4 1 0 j], .cells v4 72 pcs, .cells v5 50 (r.flatMap Enc.enc)]) ?_ ?_
    ·by_cases hq : b = true ∧ i = p
     ·rw [decide_eq_true hq] at hb'
      subst hb'
      rw [if_pos hq]
      repeat apply za
      refine zh rfl ?_
      repeat apply za
      refine pwN [] (jn2 hrf hrt) ?_
      refine ⟨by omega, ?_⟩
      intros
      exact zt (r0 ++ [s], v5 + 1) [] rfl (by simp) rfl (by simp)
     ·rw [decide_eq_false hq] at hb'
      subst hb'
      rw [if_neg hq, List.append_nil]
      repeat apply za
      refine zj rfl ?_
      refine zd ?_
      exact zt (r0, v5) [] rfl (by simp) rfl (by simp)
    ·rintro ⟨r, v5⟩ hr
     simp only at hr ⊢
     rw [← hr] at hrs
     have hrl2 : r.length ≤ 2 * i + 1 := by rw [hr]; split <;> simp <;> omega
     clear hr
     have hrf : (r.flatMap Enc.enc : List PV).length = r.length * 2 := xi r
     have hrt : (r.flatMap Enc.enc : List PV).take (r.length * 2) = r.flatMap Enc.enc := List.take_of_length_le (by omega)
     repeat apply za
     refine pwN [] (jn3 e0 hc hj1) ?_
     intros
     repeat apply za
     refine zl rfl (fun hq => ?_) (fun hq => ?_)
     ·simp at hq
      obtain ⟨u, tu, u1, u2, u3, u4, u0⟩ := el 2 rfl l i hq
      have hi2 : 2 ≤ l.length * 2 - i * 2 := by omega
      have hgu : l.getD i default = u := by rw [List.getD_eq_getElem?_getD, u1]; rfl
      rw [if_pos hq, hgu] at hrs
      have hrc : ((qH l b p s (i + 1)).flatMap Enc.enc : List PV) = r.flatMap Enc.enc ++ [I u.c, I u.q] := by rw [hrs, List.flatMap_append]; rfl
      repeat apply za
      refine pwN [] (jn6 e0 hc hj1 u0 hq (jn3 hi2 hrf hrt)) ?_
      refine ⟨by omega, ?_⟩
      intros
      (repeat apply za); refine pwn ?_; intros
      exact zk (i + 1, v5 + 1) [] (by simp; omega) (by simp; omega) (by simp [wi, hrs]) rfl (by simp [hrc])
     ·simp at hq
      rw [if_neg (by omega), List.append_nil] at hrs
      refine zd ?_
      (repeat apply za); refine pwn ?_; intros
      exact zk (i + 1, v5) [] (by simp; omega) (by simp; omega) (by simp [wi, hrs]) rfl (by simp [hrs])
  ·simp at hci
   obtain rfl : i = l.length + 1 := by omega
   refine zm ?_
   generalize qH l b p s (l.length + 1) = r at *
   have hrf : (r.flatMap Enc.enc : List PV).length = r.length * 2 := xi r
   refine zC 5 rfl ?_
   simp only [List.map_cons, List.map_nil, List.set_cons_succ, List.set_cons_zero, qD, hfz]
   repeat apply za
   refine pwN [] (jn3 hrf hpf hpt) ?_
   refine ⟨by omega, ?_⟩
   intros
   (repeat apply za); refine pwn ?_; intros
   exact zk (j + 1, v4 + 1) [_] hc (by simp; omega) (by simp [wrN j (by omega)]) rfl (by simp [hps2]; rfl)
 ·simp at hc
  obtain rfl : j = d.length := by omega
  refine zm ?_
  have hpl := Zaj d t p s d.length
  generalize qI d t p s d.length = e at *
  have hpf : (e.flatMap Enc.enc : List PV).length = d.length := by rw [qm, hpl]
  have hpt : (e.flatMap Enc.enc : List PV).take d.length = e.flatMap Enc.enc := List.take_of_length_le (by omega)
  by_cases htd : t = d.length
  ·have htd' : (t : Int) = d.length := by omega
   rw [if_pos htd]
   repeat apply za
   refine pwN [] htd' ?_
   intros
   repeat apply za
   refine zh rfl ?_
   repeat apply za
   refine pwN [] (jn2 hpf hpt) ?_
   refine ⟨by omega, ?_⟩
   intros
   have hel : (e ++ [[s]]).length = d.length + 1 := by simp [hpl]
   have hec : ((e ++ [[s]]).flatMap Enc.enc : List PV) = e.flatMap Enc.enc ++ [L [s]] := by rw [List.flatMap_append]; rfl
   refine zC 4 rfl ?_
   repeat apply za
   refine pwN [] hpf ?_
   intros
   repeat apply za
   exact zb (zg hd (by simp; rfl) (by simp [zi, hel, hec, hpl]))
  ·have htd' : ¬ (t : Int) = d.length := by omega
   rw [if_neg htd, List.append_nil]
   repeat apply za
   refine pwN [] htd' ?_
   intros
   repeat apply za
   refine zj rfl ?_
   refine zd ?_
   refine zC 4 rfl ?_
   repeat apply za
   refine pwN [] hpf ?_
   intros
   repeat apply za
   exact zb (zg hd (by simp; rfl) (by simp [zi, hpl]))
open Go Go.Proofs
def JX (d : Day) (t : Nat) : List (Nat × Nat) := (List.range ((d.getD t []).length + 1)).map fun p => (t, p)
def xH (d : Day) (t p : Nat) : List (Nat × Nat) := (List.range t).flatMap (JX d) ++ (List.range p).map fun p => (t, p)
theorem Zgg (d : Day) (t p : Nat) : xH d t (p + 1) = xH d t p ++ [(t, p)] := by
 unfold xH; rw [List.range_succ, List.map_append, List.append_assoc]; rfl
theorem Zgh (d : Day) (t : Nat) : xH d t ((d.getD t []).length + 1) = xH d (t + 1) 0 := by
 unfold xH; rw [List.range_succ (n := t), List.flatMap_append]; simp [JX]
theorem Zgi (d : Day) : xH d (d.length + 1) 0 = qG d := by
 unfold xH qG; simp [JX]; rfl
theorem Zgj {x : Inst} {d : Day} {s : Stop} {c : Nat × Nat} (hx : x.cust.length ≤ 1048576) (h1 : d.length ≤ 1000000) (h2 : d.flatten.length ≤ 1000000) (hc : c ∈ qG d) :
  (yb d s c).length ≤ 1048576 ∧ (∀ t ∈ yb d s c, t.length ≤ 1048576) ∧ (yb d s c).flatten.length ≤ 1048576 ∧ (zH x (yb d s c) = 0 → DayOk (yb d s c)) := by
 obtain ⟨b1, b2⟩ := JU (s := s) h1 h2 hc
 have b3 : ∀ t ∈ yb d s c, t.length ≤ 1048576 := fun t ht => Nat.le_trans (jZ ht).length_le b1
 refine ⟨b2, b3, b1, fun h => ⟨b2, b3, fun t ht a ha => ?_⟩⟩
 have hm := ((wJ x t).1 (((jm x _).1 h).1 t ht)).1
 unfold yg at hm
 simp only [Bool.and_eq_true] at hm
 exact Jm hx hm.1 a ha
def Qa (x : Inst) (d : Day) (st : Day × Bool) : Prop := (st.2 = false → st.1 = d) ∧ (st.2 = true → DayOk st.1)
theorem Zgk {x : Inst} {d : Day} {s : Stop} {st : Day × Bool} (h : Qa x d st) {c : Nat × Nat} (hk : zH x (yb d s c) = 0 → DayOk (yb d s c)) : Qa x d (j6 x d s st c) := by
 unfold j6
 split
 ·rename_i h0
  split
  ·exact ⟨fun e => (by cases e), fun _ => hk h0⟩
  ·exact h
 ·exact h
set_option maxRecDepth 20000 in
set_option maxHeartbeats 1600000 in
theorem Zgl (x : Inst) (d : Day) (s : Stop) (hx : x.cust.length ≤ 1048576) (h1 : d.length ≤ 1000000) (h2 : d.flatten.length ≤ 1000000) : Pure Tryz.prog 73 [.agg (zp x), .agg [L d], .agg [I s.c, I s.q]] (.tup [.agg [L (ZQ x d s).1], B (ZQ x d s).2]) := by
 have htl : ∀ l ∈ d, l.length ≤ 1000000 := fun l hl => Nat.le_trans (jZ hl).length_le h2
 unfold ZQ
 rw [← Zgi]
 refine pwe Tryz.func73 Tryz.ntmps73 Tryz.results73 fun S nx hd => ?_
 repeat apply za
 refine pwn ?_
 intro v0 v1 v2 v3
 repeat apply za
 refine pwn ?_
 intro v4
 (repeat apply za); refine pwn ?_; intros
 (repeat apply za); refine pwn ?_; intros
 repeat apply za
 refine ze (zq (fun s' : Nat × Day × Bool => s'.1 ≤ d.length + 1 ∧ s'.2 = (xH d s'.1 0).foldl (j6 x d s) (d, false) ∧ Qa x d s'.2) (fun (t, b, f) => [(3, .ptr nx v0 0), (4, .ptr (nx + 1) v1 0), (5, .ptr (nx + 2) v2 0), (6, .ptr (nx + 3) v3 0), (8, .ptr (nx + 4) v4 0), (9, B f), (10, I t)]) (fun (t, b, f) => [.cells v0 25 (zp x), .cells v1 66 [L d], .cells v2 50 [I s.c, I s.q], .cells v3 66 [zS], .cells v4 66 [L b]]) (fun s' => d.length + 1 - s'.1) (0, d, false) [] ⟨by simp, rfl, fun _ => rfl, fun e => (by cases e)⟩ (by simp) (by simp) ?_)
 rintro ⟨t, b, f⟩ ⟨ht, hst, hbo⟩
 simp only at ht hst hbo ⊢
 (repeat apply za); refine pwn ?_; intros
 repeat apply za
 refine zl rfl (fun hc => ?_) (fun hc => ?_)
 ·simp at hc
  have hc' : t ≤ d.length := by omega
  obtain ⟨n, hn⟩ : ∃ n, n = (d.getD t []).length := ⟨_, rfl⟩
  have hnb : n ≤ 1000000 := by
   rw [hn, List.getD_eq_getElem?_getD]
   cases hq : d[t]? with
   | none => simp
   | some l => exact htl l (List.mem_of_getElem? hq)
  refine zd (za (ze ?_))
  (repeat apply za); refine pwn ?_; intros
  (repeat apply za); refine pwn ?_; intros
  repeat apply za
  refine zR (nx := nx) (fun _ : Unit => True) (fun _ => [(3, .ptr nx v0 0), (4, .ptr (nx + 1) v1 0), (5, .ptr (nx + 2) v2 0), (6, .ptr (nx + 3) v3 0), (8, .ptr (nx + 4) v4 0), (9, B f), (10, I t), (11, I n)]) (fun _ => S) (fun _ => [.cells v0 25 (zp x), .cells v1 66 [L d], .cells v2 50 [I s.c, I s.q], .cells v3 66 [zS], .cells v4 66 [L b]]) ?_ ?_
  ·repeat apply za
   refine zl rfl (fun hq => ?_) (fun hq => ?_)
   ·simp at hq
    obtain ⟨l, tl, a1, a2, a3, e0⟩ := el1 rfl d t hq
    have ht1 : 1 ≤ d.length - t := by omega
    have hnl : n = l.length := by rw [hn, List.getD_eq_getElem?_getD, a1]; rfl
    repeat apply za
    refine pwN [] (jn3 e0 hq ht1) ?_
    intros
    exact zt () [] trivial (by simp [hnl]) rfl (by simp)
   ·simp at hq
    have hnl : n = 0 := by rw [hn, List.getD_eq_getElem?_getD, List.getElem?_eq_none (by omega)]; rfl
    refine zd ?_
    exact zt () [] trivial (by simp [hnl]) rfl (by simp)
  ·rintro ⟨⟩ -
   (repeat apply za); refine pwn ?_; intros
   repeat apply za
   refine ze (zq (fun s' : Nat × Day × Bool => s'.1 ≤ n + 1 ∧ s'.2 = (xH d t s'.1).foldl (j6 x d s) (d, false) ∧ Qa x d s'.2) (fun (p, b, f) => [(3, .ptr nx v0 0), (4, .ptr (nx + 1) v1 0), (5, .ptr (nx + 2) v2 0), (6, .ptr (nx + 3) v3 0), (8, .ptr (nx + 4) v4 0), (9, B f), (10, I t), (11, I n), (12, I p)]) (fun (p, b, f) => [.cells v0 25 (zp x), .cells v1 66 [L d], .cells v2 50 [I s.c, I s.q], .cells v3 66 [zS], .cells v4 66 [L b]]) (fun s' => n + 1 - s'.1) (0, b, f) [] ⟨by simp, hst, hbo⟩ (by simp) (by simp) ?_)
   clear hst hbo b f
   rintro ⟨p, b, f⟩ ⟨hp, hst, hbo⟩
   simp only at hp hst hbo ⊢
   (repeat apply za); refine pwn ?_; intros
   repeat apply za
   refine zl rfl (fun hcp => ?_) (fun hcp => ?_)
   ·simp at hcp
    have hcp' : p ≤ (d.getD t []).length := by omega
    have hcand : (t, p) ∈ qG d := Y4.2 ⟨hc', hcp'⟩
    obtain ⟨k1, k2, k3, k4⟩ := Zgj (s := s) hx h1 h2 hcand
    have hput := Zgf d t p s h1 htl hc' hcp'
    have hday := Vk x (yb d s (t, p)) hx k1 k2 k3
    have hstep : j6 x d s (b, f) (t, p) = (xH d t (p + 1)).foldl (j6 x d s) (d, false) := by rw [Zgg, List.foldl_append, ← hst]; rfl
    have hbn := Zgk (x := x) (s := s) hbo k4
    have hdef : j6 x d s (b, f) (t, p) = j6 x d s (b, f) (t, p) := rfl
    conv at hdef => rhs; unfold j6
    have hcst := YP x (yb d s (t, p))
    generalize yb d s (t, p) = e at *
    have wp := wrN p (by omega)
    refine zd (za (ze ?_))
    repeat apply za
    refine pwn ?_
    refine pwc hput ?_
    intro v5
    intros
    repeat apply za
    refine pwn ?_
    refine pwc hday ?_
    intros
    by_cases h0 : zH x e = 0
    case neg =>
     rw [if_neg h0] at hdef
     repeat apply za
     refine zh (by simp [h0]) ?_
     refine zm ?_
     (repeat apply za); refine pwn ?_; intros
     exact zk (p + 1, b, f) [_] ⟨by simp; omega, by rw [← hstep, hdef], by rw [← hdef]; exact hbn⟩ (by simp; omega) (by simp [wp]) rfl (by simp; rfl)
    rw [if_pos h0] at hdef
    repeat apply za
    refine zj (by simp [h0]) ?_
    refine zd ?_
    cases f with
    | false =>
     rw [if_pos (.inl rfl)] at hdef
     repeat apply za
     refine pwY (some [nx, nx + 4, nx + 5]) (Row.pures [0, 1, 2, 3, 4, 5, 6, 7, 8, 9, 10] .done) mixed zn ?_
     intros
     repeat apply za
     refine zh rfl ?_
     (repeat apply za); refine pwn ?_; intros
     (repeat apply za); refine pwn ?_; intros
     (repeat apply za); refine pwn ?_; intros
     exact zk (p + 1, e, true) [_] ⟨by simp; omega, by rw [← hstep, hdef], by rw [← hdef]; exact hbn⟩ (by simp; omega) (by simp [wp]) rfl (by simp; rfl)
    | true =>
     have hcb := YP x b (hbo.2 rfl)
     have hce := hcst (k4 h0)
     generalize hw1 : W (zA x e) = ce at *
     generalize hw2 : W (zA x b) = cb at *
     repeat apply za
     refine pwY (some [nx, nx + 4, nx + 5]) (Row.pures [0, 1, 2, 3, 4, 5, 6, 7, 8, 9, 10] .done) mixed trivial ?_
     refine pwP (hce) trivial ?_
     refine pwP (hcb) trivial ?_
     intros
     by_cases hlt : ce < cb
     ·rw [if_pos (.inr hlt)] at hdef
      repeat apply za
      refine zh (by simp [hlt]) ?_
      (repeat apply za); refine pwn ?_; intros
      (repeat apply za); refine pwn ?_; intros
      (repeat apply za); refine pwn ?_; intros
      exact zk (p + 1, e, true) [_] ⟨by simp; omega, by rw [← hstep, hdef], by rw [← hdef]; exact hbn⟩ (by simp; omega) (by simp [wp]) rfl (by simp; rfl)
     ·rw [if_neg (by simp [hlt])] at hdef
      repeat apply za
      refine zj (by simp [hlt]) ?_
      refine zd ?_
      (repeat apply za); refine pwn ?_; intros
      exact zk (p + 1, b, true) [_] ⟨by simp; omega, by rw [← hstep, hdef], by rw [← hdef]; exact hbn⟩ (by simp; omega) (by simp [wp]) rfl (by simp; rfl)
   ·simp at hcp
    obtain rfl : p = n + 1 := by omega
    rw [hn, Zgh] at hst
    refine zm ?_
    (repeat apply za); refine pwn ?_; intros
    exact zk (t + 1, b, f) [] ⟨by simp; omega, hst, hbo⟩ (by simp; omega) (by simp [wrN t (by omega)]) rfl (by simp)
 ·simp at hc
  obtain rfl : t = d.length + 1 := by omega
  refine zm ?_
  rw [← hst]
  (repeat apply za); refine pwn ?_; intros
  repeat apply za
  exact zb (zg hd (by simp; rfl) (by simp [zi]))
open Go Go.Proofs
theorem Zgm (x : Inst) (d : Day) (s : Stop) (t : Nat) : (uT x d s t).length ≤ t := by
 unfold uT; exact Nat.le_trans (List.length_filterMap_le _ _) (by simp)
open Go Go.Proofs
theorem Sim.drewN {C : Ctx} {S : Store} {w : World} (h : Sim C S w) : ∀ q : Nat, Sim C S (w.drewN q) ∧ Step C S w C S (w.drewN q)
 | 0 => by
  have e : w.drewN 0 = w := rfl
  rw [e]; exact ⟨h, .refl _ _ _⟩
 | q + 1 => by
  obtain ⟨a, b⟩ := Sim.drewN h q
  obtain ⟨c, d⟩ := a.drew
  have e : w.drewN (q + 1) = (w.drewN q).drew := by unfold World.drewN World.drew; simp [Nat.add_assoc]
  rw [e]
  exact ⟨c, b.trans d⟩
theorem Zgn (zs : List Int) (c : Int) (hn : zs.length ≤ 1048576) (hs : zs.Pairwise (· ≤ ·)) : Pure Tryz.prog 148 [L zs, I c] (.tup [I (zs.countP (· < c) : Nat), B (zs.contains c)]) := by
 intro S
 refine ⟨yL Tryz.func148 (by rfl) rfl, ?_⟩
 intro C w vs hS hl hr
 obtain ⟨u, v, rfl⟩ : ∃ u v, vs = #[u, v] := Vz hl
 obtain rfl := vY (hr 1 _ v rfl rfl)
 have h0 : Rel C S w (.lst zs.length (zs.flatMap Enc.enc)) u := hr 0 _ u rfl rfl
 have hret : ∀ (k : Int) (b : Bool), Rel C S w (.tup [I k, B b]) (.tuple #[.int .i64 k, .bool b]) := by
  intro k b
  refine .tup rfl ?_
  intro i p v hc hv
  match i with
  | 0 => have hc : some (I k) = some p := hc; have hv : some (Value.int .i64 k) = some v := hv; cases hc; cases hv; exact .sc _
  | 1 => have hc : some (B b) = some p := hc; have hv : some (Value.bool b) = some v := hv; cases hc; cases hv; exact .sc _
  | i + 2 => simp at hc
 rw [YL] at h0
 generalize hcs : zs.map I = cs at h0
 generalize hzl : zs.length = n at h0 hn
 cases h0 with
 | lst0 =>
  obtain rfl : zs = [] := List.eq_nil_of_length_eq_zero hzl
  refine (Tryz.slices_BinarySearch_int_empty _ _ c w).mono ?_
  rintro e w' ⟨rfl, rfl⟩
  exact ⟨_, _, _, _, rfl, ⟨rfl, rfl⟩, hret 0 false, hS, .refl _ _ _⟩
 | lst1 g1 g2 g3 g4 g5 g6 g7 =>
  rename_i cap b o ca e fz
  by_cases hz : zs = []
  ·subst hz
   simp at hzl
   subst hzl
   refine (Tryz.slices_BinarySearch_int_empty _ _ c w).mono ?_
   rintro e w' ⟨rfl, rfl⟩
   exact ⟨_, _, _, _, rfl, ⟨rfl, rfl⟩, hret 0 false, hS, .refl _ _ _⟩
  ·subst hcs
   have g5' := g5 (by simpa using hz)
   rw [List.length_map] at g5'
   have hcell : ∀ j, j < zs.length → w.cell? ⟨b, o + j, none⟩ = some (.int .i64 (zs.getD j 0)) := by
    intro j hj
    have e2 : ca[o + j]? = some ca[o + j] := by rw [Array.getElem?_eq_getElem]
    have e3 := vY (g7 j (I (zs.getD j 0)) _ (by simp [hj]) e2)
    rw [e3] at e2
    simp [World.cell?, g3, e2]
   refine (Tryz.slices_BinarySearch_int b o n cap zs c w (by omega) (by omega) hcell (hs.sublist (List.take_sublist _ _))).mono ?_
   rintro e w' ⟨rfl, q, rfl⟩
   obtain ⟨s1, s2⟩ := hS.drewN q
   rw [List.take_of_length_le (by omega)]
   exact ⟨_, _, _, _, rfl, ⟨rfl, rfl⟩, (hret _ _).mono s2, s1, s2⟩
theorem Zgo {n k : Nat} (hk : k < n) (W : Nat → List Spot) (E : List Spot) (i : Nat) (x : List PV) (h : ((W k).map xG)[i]? = some x) : (((List.range n).flatMap W ++ E).map xG)[((List.range k).flatMap W).length + i]? = some x := by
 obtain ⟨m, rfl⟩ : ∃ m, n = k + (m + 1) := ⟨n - k - 1, by omega⟩
 rw [List.getElem?_map] at h ⊢
 rw [List.range_add, List.flatMap_append, List.append_assoc, List.getElem?_append_right (Nat.le_add_right _ _), Nat.add_sub_cancel_left, List.range_succ_eq_map]
 have hi : i < (W k).length := by
  rcases Nat.lt_or_ge i (W k).length with e | e
  ·exact e
  ·rw [List.getElem?_eq_none e] at h; cases h
 rw [List.getElem?_append_left (by simp; omega)]
 simp only [List.map_cons, List.flatMap_cons, Nat.add_zero]
 rw [List.getElem?_append_left (by omega)]
 exact h
theorem Zgp (W : Nat → List Spot) (k : Nat) : ((List.range (k + 1)).flatMap W).length = ((List.range k).flatMap W).length + (W k).length := by
 rw [List.range_succ, List.flatMap_append, List.length_append]; simp
theorem Zgq (l : List Int) (c : Int) : (zZ l).contains c = l.contains c := by
 rw [Bool.eq_iff_iff, List.contains_iff_mem, List.contains_iff_mem]
 exact (List.mergeSort_perm l _).mem_iff
theorem Zak {x : Inst} {s : Stop} (hx : x.cust.length ≤ 1048576) (h : zr x [s] ≠ 1) : small s.c := by
 have := V3 h
 unfold yC at this
 simp only [Bool.and_eq_true, decide_eq_true_eq] at this
 unfold small; omega
set_option maxRecDepth 20000 in
set_option maxHeartbeats 1600000 in
theorem Zal (x : Inst) (d : Day) (s : Stop) (hx : x.cust.length ≤ 1048576) (hdo : DayOk d) (hf : d.flatten.length ≤ 1048576) : vV Tryz.prog 147 [.ip [I s.c, I s.q], .ip (xF x d)] ((yd x d s).map xG) := by
 have hmay := ZG x [s] hx (by simp)
 have hse := Zgn (zZ (d.flatten.map (·.c))) s.c (by rw [vi, List.length_map]; exact hf) (ZE _)
 rw [Zgq] at hse
 generalize ((zZ (d.flatten.map (·.c))).countP (· < s.c) : Nat) = cnt at hse
 obtain ⟨tw, htw⟩ : ∃ tw, tw = decide (¬ (zZ (d.flatten.map (·.c))).Nodup) := ⟨_, rfl⟩
 have htw' : tw = decide (¬ (d.flatten.map (·.c)).Nodup) := by rw [htw]; exact decide_eq_decide.2 (not_congr (List.mergeSort_perm _ _).nodup_iff)
 obtain ⟨th, hth⟩ : ∃ th, th = (d.flatten.map (·.c)).contains s.c := ⟨_, rfl⟩
 rw [← hth] at hse
 have hlk : xF x d = jY x d (zZ (d.flatten.map (·.c))) tw (d.map (zr x)) (yc x d) (d.map yS) (d.map (yR x)) := by rw [htw]
 rw [hlk]
 obtain ⟨on, hon⟩ : ∃ on, on = zZ (d.flatten.map (·.c)) := ⟨_, rfl⟩
 rw [← hon] at hse ⊢
 obtain ⟨fa, hfa⟩ : ∃ fa, fa = zr x [s] := ⟨_, rfl⟩
 rw [← hfa] at hmay
 have hdn := hdo.n
 refine YG Tryz.func147 (by rfl) rfl Tryz.ntmps147 (congrArg Array.toList Tryz.results147) (by simp) fun l V keep nx J hJd hY A0 hA0 => ?_
 repeat apply za
 refine pwY (some []) (Row.pures [0, 1, 2, 3, 4, 5] (.alt 6 (.alt 7 (Row.pures [8] .done) .stop) .stop)) mixed trivial ?_
 refine pwP (Jp s) trivial ?_
 intro v0
 intros
 repeat apply za
 refine pwn ?_
 refine pwc hmay ?_
 intros
 repeat apply za
 refine pwn ?_
 refine pwc hse ?_
 intros
 by_cases hout : zr x [s] = 1 ∨ s.c ∈ d.flatten.map (·.c) ∨ ¬ (d.flatten.map (·.c)).Nodup ∨ x.veh < d.length
 ·have hz : yd x d s = [] := by unfold yd; rw [if_pos hout]
  rw [hz] at hY ⊢
  by_cases h1 : fa = 1
  ·repeat apply za
   refine pwN [(2, 30), (5, 33), (9, 37)] (jn2 h1 zn) ?_
   intros
   repeat apply za
   refine zh rfl ?_
   exact zb (xB (hJd _ _ hA0) rfl (by simpa using hA0))
  cases h2 : th with
  | true =>
   repeat apply za
   refine pwN [(2, 30), (5, 33), (9, 37)] (jn2 h1 zn) ?_
   intros
   repeat apply za
   refine zh rfl ?_
   exact zb (xB (hJd _ _ hA0) rfl (by simpa using hA0))
  | false =>
   cases h3 : tw with
   | true =>
    repeat apply za
    refine pwN [(2, 30), (5, 33), (9, 37)] (jn2 h1 zn) ?_
    intros
    repeat apply za
    refine zh rfl ?_
    exact zb (xB (hJd _ _ hA0) rfl (by simpa using hA0))
   | false =>
    have h4 : x.veh < d.length := by
     rcases hout with e | e | e | e
     ·exact absurd (hfa.trans e) h1
     ·have : th = true := by rw [hth, List.contains_iff_mem]; exact e
      rw [h2] at this; cases this
     ·have : tw = true := by rw [htw']; exact decide_eq_true e
      rw [h3] at this; cases this
     ·exact e
    repeat apply za
    refine pwN [(2, 30), (5, 33), (9, 37)] (jn3 h1 h4 zn) ?_
    intros
    repeat apply za
    refine zh rfl ?_
    exact zb (xB (hJd _ _ hA0) rfl (by simpa using hA0))
 have h1 : ¬ fa = 1 := fun e => hout (.inl (hfa ▸ e))
 have h2 : th = false := by
  cases e : th with
  | false => rfl
  | true => rw [hth, List.contains_iff_mem] at e; exact absurd (.inr (.inl e)) hout
 have h3 : tw = false := by
  cases e : tw with
  | false => rfl
  | true => rw [htw'] at e; exact absurd (.inr (.inr (.inl (of_decide_eq_true e)))) hout
 have h4 : ¬ x.veh < d.length := fun e => hout (.inr (.inr (.inr e)))
 have hsm := Zak hx (s := s) (fun e => hout (.inl e))
 obtain ⟨WW, hWW⟩ : ∃ WW : Nat → List Spot, WW = fun t => xq x t (d.getD t []) (zr x (d.getD t [])) (yc x d) (yS (d.getD t [])) (yR x (d.getD t [])) s := ⟨_, rfl⟩
 obtain ⟨EE, hEE⟩ : ∃ EE : List Spot, EE = if yc x d = 0 ∧ zr x [s] = 0 ∧ (d.length : Int) < x.veh then [⟨d.length, 0, W (zB x [s.c])⟩] else [] := ⟨_, rfl⟩
 have hz : yd x d s = (List.range d.length).flatMap WW ++ EE := by unfold yd; rw [if_neg hout, hWW, hEE]
 rw [hz] at hY ⊢
 subst h2 h3
 repeat apply za
 refine pwN [(2, 30), (5, 33), (9, 37)] (jn3 h1 h4 zn) ?_
 intros
 repeat apply za
 refine zj rfl ?_
 refine zd ?_
 (repeat apply za); refine pwn ?_; intros
 repeat apply za
 refine ze (qV (σ := Nat × Store) (fun s' => s'.1 ≤ d.length ∧ J ((List.range s'.1).flatMap WW).length s'.2) (fun s' => [(0, yld l), (1, .ip [I s.c, I s.q]), (2, .ip (jY x d on false (d.map (zr x)) (yc x d) (d.map yS) (d.map (yR x)))), (4, .ptr nx v0 0), (5, I d.length), (6, I fa), (44, I d.length), (45, I s'.1)]) (fun s' => s'.2)
  (fun _ => [.cells v0 72 [L [s]]]) (fun s' => d.length - s'.1) (zt (0, A0) [] (by simpa using hA0) (by simp) rfl (by simp)) ?_)
 rintro ⟨k, A⟩ ⟨hk, hJ⟩
 simp only at hk hJ ⊢
 (repeat apply za); refine pwn ?_; intros
 repeat apply za
 refine zl rfl (fun hc => ?_) (fun hc => ?_)
 ·simp at hc
  have hdk : d[k]? = some d[k] := List.getElem?_eq_getElem hc
  have hg : d.getD k [] = d[k] := by rw [List.getD_eq_getElem?_getD, hdk]; rfl
  have hb : zr x d[k] = 13 → 0 < yc x d := by
   intro e
   rcases Nat.eq_zero_or_pos (yc x d) with q | q
   ·rw [vn.1 q _ (List.getElem_mem hc)] at e; cases e
   ·exact q
  have hw := ZfR x d on false (d.map (zr x)) (yc x d) (d.map yS) (d.map (yR x)) k d[k] s (zr x d[k]) (yS d[k]) (yR x d[k]) (Nat.le_trans (VN x d) hdn) hdn hdk (by rw [List.getElem?_map, hdk]; rfl) (by rw [List.getElem?_map, hdk]; rfl) (by rw [List.getElem?_map, hdk]; rfl) (by simp) (by simp) (by simp) hb (hdo.t _ (List.getElem_mem hc)) (hdo.s _ (List.getElem_mem hc)) hsm
  have hWk : WW k = xq x k d[k] (zr x d[k]) (yc x d) (yS d[k]) (yR x d[k]) s := by rw [hWW]; simp only [hg]
  rw [← hWk] at hw
  have hlen := Zgp WW k
  refine zd (za (ze ?_))
  (repeat apply za); refine pwn ?_; intros
  repeat apply za
  refine zN [] (by rfl) (by rfl) fun K Gc Gh hK hGc hGh X hX0 hX => ?_
  simp -implicitDefEqProofs [hX0, hX]
  try clear hX0 hX X
  refine hGc _ _ _ _ _ _ _ fun hsuf => ((VQ hw keep hY _ (Zgo hc WW EE) hJ _).mono ?_)
  rintro _ _ ⟨A', rfl, hJ', rfl⟩
  rw [List.length_map, ← hlen] at hJ'
  refine ⟨_, _, rfl, ?_⟩
  clear hGc hGh
  clear Gc Gh
  refine zI hsuf (D := []) (by rfl) fun Gc Gh hGc hGh X hX0 hX => ?_
  simp -implicitDefEqProofs [hX0, hX]
  clear hX0 hX X
  intros
  refine hK _ _ _ ?_
  clear hK hGc hGh
  clear K Gc Gh
  repeat apply za
  refine zj rfl ?_
  refine zd ?_
  (repeat apply za); refine pwn ?_; intros
  exact zk (k + 1, A') [] ⟨hc, hJ'⟩ (by simp; omega) (by simp [wrN k (by omega)]) rfl (by simp)
 ·simp at hc
  obtain rfl : k = d.length := by omega
  refine zm ?_
  by_cases he : yc x d = 0 ∧ zr x [s] = 0 ∧ (d.length : Int) < x.veh
  ·have hE : EE = [⟨d.length, 0, W (zB x [s.c])⟩] := by rw [hEE, if_pos he]
   obtain ⟨e1, e2, e3⟩ := he
   have hlw := ZD x [s] (by simp) (by simpa using hsm)
   have h5 : fa = 0 := hfa.trans e2
   have hy : (((List.range d.length).flatMap WW ++ EE).map xG)[((List.range d.length).flatMap WW).length]? = some (xG ⟨d.length, 0, W (zB x [s.c])⟩) := by
    rw [List.getElem?_map, List.getElem?_append_right (Nat.le_refl _), Nat.sub_self, hE]; rfl
   simp only [List.map_cons, List.map_nil] at hlw
   repeat apply za
   refine pwN [(3, 58), (7, 62)] (jn4 e1 h5 e3 zn) ?_
   intros
   repeat apply za
   refine zh rfl ?_
   repeat apply za
   refine zN [] (by rfl) (by rfl) fun K Gc Gh hK hGc hGh X hX0 hX => ?_
   simp -implicitDefEqProofs [hX0, hX]
   try clear hX0 hX X
   refine hGc _ _ _ _ _ _ _ fun hsuf => ((hlw _).mono ?_).v
   rintro _ _ ⟨rfl, rfl⟩
   refine ⟨_, _, rfl, ?_⟩
   clear hGc hGh
   clear Gc Gh
   refine zI hsuf (D := []) (by rfl) fun Gc Gh hGc hGh X hX0 hX => ?_
   simp -implicitDefEqProofs [hX0, hX]
   try clear hX0 hX X
   refine hGh _ _ _ _ _ fun hsuf => Zt rfl rfl rfl (hY _ _ _ _ hy hJ) ?_
   rintro _ ⟨A', hJ', rfl⟩
   refine ⟨_, _, rfl, ?_⟩
   clear hGc hGh
   clear Gc Gh
   refine zI hsuf (D := []) (by rfl) fun Gc Gh hGc hGh X hX0 hX => ?_
   simp -implicitDefEqProofs [hX0, hX]
   try clear hX0 hX X
   intros
   refine hK _ _ _ ?_
   clear hK hGc hGh
   clear K Gc Gh
   exact xB (hJd _ _ hJ') rfl (by rw [List.length_map, List.length_append, hE]; exact hJ')
  ·have hE : EE = [] := by rw [hEE, if_neg he]
   have hfin : J (((List.range d.length).flatMap WW ++ EE).map xG).length A := by rw [hE, List.append_nil, List.length_map]; exact hJ
   by_cases e1 : yc x d = 0
   ·by_cases e2 : fa = 0
    ·have e3 : ¬ (d.length : Int) < x.veh := fun e => he ⟨e1, hfa ▸ e2, e⟩
     repeat apply za
     refine pwN [(3, 58), (7, 62)] (jn4 e1 e2 e3 zn) ?_
     intros
     repeat apply za
     refine zj rfl ?_
     refine zd ?_
     exact xB (hJd _ _ hJ) rfl hfin
    ·repeat apply za
     refine pwN [(3, 58), (7, 62)] (jn3 e1 e2 zn) ?_
     intros
     repeat apply za
     refine zj rfl ?_
     refine zd ?_
     exact xB (hJd _ _ hJ) rfl hfin
   ·repeat apply za
    refine pwN [(3, 58), (7, 62)] (jn2 e1 zn) ?_
    intros
    repeat apply za
    refine zj rfl ?_
    refine zd ?_
    exact xB (hJd _ _ hJ) rfl hfin
open Go Go.Proofs
theorem JY (id v : Nat) (cs : List PV) (d : Day) : (d.flatMap Enc.enc).map (yo id v cs) = (d.flatMap Enc.enc : List PV) := by
 induction d with
 | nil => rfl
 | cons l d ih => rw [List.flatMap_cons, List.map_append, ih]; rfl
theorem Zgr (id v : Nat) (cs : List PV) (d : Day) (t : Nat) (p : PV) : ((d.flatMap Enc.enc).set t p).map (yo id v cs) = (d.flatMap Enc.enc : List PV).set t (yo id v cs p) := by
 rw [List.map_set, JY]
theorem Zam : ∀ (d : Day) (t : Nat) (l : zo), (d.flatMap Enc.enc : List PV).set t (L l) = (d.set t l).flatMap Enc.enc
 | [], t, l => rfl
 | m :: d, 0, l => rfl
 | m :: d, t + 1, l => by
  rw [List.set_cons_succ, List.flatMap_cons, List.flatMap_cons, ← Zam d t l]
  rfl
theorem Zgs {S : Store} {nx m : Nat} {obs : List Ob} (x y : Ob) (hm : m = nx + obs.length) : ((ext S nx obs).set (m + 3) x).set (m + 4) y = ext S nx (obs ++ [.dead, .dead, .dead, x, y]) := by
 subst hm
 rw [WE 3]
 have := qj (S := S) (nx := nx) (obs := obs ++ List.replicate 3 .dead ++ [x]) y
 simpa [Nat.add_assoc] using this
theorem Zgt (d : Day) (hd0 : d.length ≤ 1048576) (hd1 : ∀ l ∈ d, l.length ≤ 1048576) (S : Store) (nx : Nat) (hd : zK nx S) :
  Spec Tryz.prog 109 [.agg [L d]] S (fun p S' => ∃ v, p = .agg [.sl (nx + 3) v 1 0 d.length] ∧ S' = S.set (nx + 3) (.cells v 72 (d.flatMap Enc.enc))) := by
 refine (JM d d.length hd0 hd1 (by simp) S nx hd).mono ?_
 rintro _ _ ⟨v, ts, ob, ⟨h1, h2, -⟩, rfl, rfl⟩
 obtain ⟨rfl, rfl⟩ := h2 (Nat.le_refl _)
 rw [List.take_length]
 refine ⟨v, rfl, ?_⟩
 funext o
 by_cases h4 : o = nx + 4
 ·subst h4
  rw [Store.set_same, Store.set_other _ _ _ _ (by omega), hd _ (by omega)]
 ·rw [Store.set_other _ _ _ _ h4]
theorem Zgu (cs : List PV) (i : Nat) (p q : PV) (h : i < cs.length) : zJ (cs.set i p) i [q] = cs.set i q := by
 unfold zJ
 rw [List.set_eq_take_append_cons_drop, if_pos h, List.set_eq_take_append_cons_drop, if_pos h]
 have hl : (cs.take i).length = i := by rw [List.length_take]; omega
 rw [List.take_append_of_le_length (by omega), List.take_of_length_le (by omega), List.drop_append, hl, List.drop_of_length_le (by rw [hl]; simp)]
 simp
theorem Zan (id v sz k : Nat) (cs : List PV) (h : k * sz = cs.length) : yo id v cs (.sl id v sz 0 k) = .lst k cs := by simp [yo, h]
theorem JZ {α β : Type} {f : β → α → β} {b : β} {l : List α} {i : Nat} {a : α} (h : l[i]? = some a) : (l.take (i + 1)).foldl f b = f ((l.take i).foldl f b) a := by
 obtain ⟨hi, rfl⟩ := List.getElem?_eq_some_iff.1 h
 rw [List.take_succ_eq_append_getElem hi, List.foldl_append]; rfl
theorem Zgv {x : Inst} {d : Day} {s : Stop} {b : Spot} (h : b ∈ yd x d s) (hb : b.t ≠ d.length) : ∃ l, d[b.t]? = some l ∧ 0 < l.length ∧ b.p ≤ l.length := by
 obtain ⟨-, -, -, -, h⟩ := ZN h
 rcases h with ⟨l, hl, hi, ho, -⟩ | ⟨rfl, -⟩
 ·refine ⟨l, hl, ?_, hi⟩
  have hself : zr x l = 0 ∨ zr x l = 13 := by
   by_cases hf : zr x l = 13
   ·exact .inr hf
   ·rw [if_neg hf] at ho
    exact .inl (vn.1 (by omega) l (List.mem_of_getElem? hl))
  have hst : yg x l = true := by
   cases e : yg x l with
   | true => rfl
   | false => rw [JQ e] at hself; rcases hself with h | h <;> cases h
  exact List.length_pos_iff.2 (Y1 hst)
 ·exact absurd rfl hb
theorem Zgw {x : Inst} {d : Day} {s : Stop} {b : Spot} (h : b ∈ yd x d s) : b.t ≤ d.length := by
 obtain ⟨-, -, -, -, h⟩ := ZN h
 rcases h with ⟨l, hl, -⟩ | ⟨rfl, -⟩
 ·exact Nat.le_of_lt (List.getElem?_eq_some_iff.1 hl).1
 ·exact Nat.le_refl _
set_option maxRecDepth 20000 in
set_option maxHeartbeats 1600000 in
theorem Zao (x : Inst) (d : Day) (s : Stop) (hx : x.cust.length ≤ 1048576) (hdo : DayOk d) (hf : d.flatten.length ≤ 1000000) : Pure Tryz.prog 71 [.agg (zp x), .agg [L d], .agg [I s.c, I s.q]] (.tup [.agg [L (zW x d s).1], B (zW x d s).2]) := by
 have hit := Zal x d s hx hdo (by omega)
 have hsee := VO x d hx hdo (by omega)
 have hmem := fun h => Y0 (l := yd x d s) h
 have hle : ∀ b ∈ yd x d s, b.t ≤ d.length := fun b hb => Zgw hb
 have htour : ∀ b ∈ yd x d s, b.t ≠ d.length → ∃ l, d[b.t]? = some l ∧ 0 < l.length ∧ b.p ≤ l.length := fun b hb => Zgv hb
 have hins : zW x d s = bif (jM (yd x d s)).2 then (yT d (jM (yd x d s)).1 s, true) else (d, false) := rfl
 have hsF := VL (xF x d) s rfl
 rw [hins]
 clear hins
 generalize yd x d s = xs at *
 generalize hlk : xF x d = lk at *
 have hdn := hdo.n
 have hd1 : ∀ l ∈ d, l.length ≤ 1000000 := fun l hl => Nat.le_trans (jZ hl).length_le hf
 refine pwe Tryz.func71 Tryz.ntmps71 Tryz.results71 fun S nx hd => ?_
 repeat apply za
 refine pwn ?_
 intro v0 v1 v2 v3
 repeat apply za
 refine pwn ?_
 intro v4 v5
 repeat apply za
 refine pwY none (Row.pures [0, 1, 2, 3, 4] .done) mixed trivial ?_
 refine pwP (hsee) trivial ?_
 refine pwP (hsF) trivial ?_
 intros
 repeat apply za
 refine ze (Zv (xs := xs.map xG) (σ := Spot × Bool) (fun i st => st = (xs.take i).foldl j4 (⟨0, 0, 0⟩, false)) [(3, .ptr nx v0 0), (4, .ptr (nx + 1) v1 0), (5, .ptr (nx + 2) v2 0), (6, .ptr (nx + 3) v3 0), (8, .ptr (nx + 4) v4 0), (9, .ptr (nx + 5) v5 0)] (fun _ => S)
  (fun (b, found) => [.cells v0 25 (zp x), .cells v1 66 [L d], .cells v2 50 [I s.c, I s.q], .cells v3 66 [zS], .cells v4 145 [I b.t, I b.p, I b.m], .cells v5 4 [B found]]) (⟨0, 0, 0⟩, false)
  hit rfl (by intro x hx; obtain ⟨y, _, rfl⟩ := List.mem_map.1 hx; rfl) (by decide) (by simp) (by simp) rfl (by simp) (by simp) ?_ ?_)
 ·rintro l i ⟨b, found⟩ more y hst hy
  simp only at hst ⊢
  rw [List.getElem?_map] at hy
  obtain ⟨p, hp, rfl⟩ := Option.map_eq_some_iff.1 hy
  have hsucc := JZ (f := j4) (b := (⟨0, 0, 0⟩, false)) hp
  rw [← hst] at hsucc
  unfold j4 at hsucc
  simp only at hsucc
  repeat apply za
  refine pwn ?_
  intro v6
  refine ze ?_
  cases found with
  | false =>
   rw [if_pos (.inl rfl)] at hsucc
   repeat apply za
   refine pwN [(2, 21)] zn ?_
   intros
   repeat apply za
   refine zh rfl ?_
   (repeat apply za); refine pwn ?_; intros
   simp only [qi]
   exact jG (p, true) [_] hsucc.symm rfl (by simp; rfl)
  | true =>
   by_cases hm : p.m < b.m
   ·rw [if_pos (.inr hm)] at hsucc
    repeat apply za
    refine pwN [(2, 21)] (jn2 hm zn) ?_
    intros
    repeat apply za
    refine zh rfl ?_
    (repeat apply za); refine pwn ?_; intros
    simp only [qi]
    exact jG (p, true) [_] hsucc.symm rfl (by simp; rfl)
   ·rw [if_neg (by simp [hm])] at hsucc
    repeat apply za
    refine pwN [(2, 21)] (jn2 hm zn) ?_
    intros
    repeat apply za
    refine zj rfl ?_
    refine zd ?_
    simp only [qi]
    exact jG (b, true) [_] hsucc.symm rfl (by simp; rfl)
 ·rintro ⟨b, found⟩ hst
  simp only [List.length_map, List.take_length] at hst ⊢
  have hbz : jM xs = (b, found) := hst.symm
  rw [hbz] at hmem ⊢
  simp only at hmem ⊢
  cases found with
  | false =>
   simp only [cond_false]
   repeat apply za
   refine pwn ?_
   refine pwc (ZfN d hdn (fun l hl => Nat.le_trans (hd1 l hl) (by decide))) ?_
   intros
   repeat apply za
   refine ze ?_
   (repeat apply za); refine pwn ?_; intros
   repeat apply za
   refine zh rfl ?_
   (repeat apply za); refine pwn ?_; intros
   repeat apply za
   exact zb (zg hd (by simp; rfl) (by simp [zi]))
  | true =>
   have hb := hmem rfl
   have hbl := hle b hb
   simp only [cond_true]
   by_cases hbt : b.t = d.length
   ·have hpd : yT d b s = d ++ [[s]] := by unfold yT; rw [if_pos hbt]
    rw [hpd]
    have hfl : (d.flatMap Enc.enc : List PV).length = d.length := qm d
    have htk : (d.flatMap Enc.enc : List PV).take d.length = d.flatMap Enc.enc := List.take_of_length_le (by omega)
    have hsn : ((d ++ [[s]]).flatMap Enc.enc : List PV) = d.flatMap Enc.enc ++ [L [s]] := by rw [List.flatMap_append]; rfl
    repeat apply za
    refine zN [] (by rfl) (by rfl) fun K Gc Gh hK hGc hGh X hX0 hX => ?_
    simp -implicitDefEqProofs [hX0, hX]
    try clear hX0 hX X
    refine hGc _ _ _ _ _ _ _ fun hsuf => ((Zgt d hdn (fun l hl => Nat.le_trans (hd1 l hl) (by decide)) _ _ jF).mono ?_).v
    rintro _ _ ⟨v7, rfl, rfl⟩
    refine ⟨_, _, WE 3 _, ?_⟩
    clear hGc hGh
    clear Gc Gh
    refine zI hsuf (D := []) (by rfl) fun Gc Gh hGc hGh X hX0 hX => ?_
    simp -implicitDefEqProofs [hX0, hX, Nat.add_assoc]
    clear hX0 hX X
    intros
    refine hK _ _ _ ?_
    clear hK hGc hGh
    clear K Gc Gh
    generalize hds : (d.flatMap Enc.enc : List PV) = ds at *
    repeat apply za
    refine ze ?_
    (repeat apply za); refine pwn ?_; intros
    repeat apply za
    refine zj rfl ?_
    (repeat apply za); refine pwn ?_; intros
    repeat apply za
    refine zh (by simp; omega) ?_
    repeat apply za
    refine pwY (some [nx + 2]) (Row.pures [0, 2, 3, 4] (.alt 1 (.alt 5 (Row.pures [6] (.alt 7 (.done) .stop)) .stop) .stop)) mixed (jn2 hfl htk) ?_
    refine pwP (Jp s) (jn2 hfl htk) ?_
    refine ⟨by omega, ?_⟩
    intros
    refine zC 9 rfl ?_
    (repeat apply za); refine pwn ?_; intros
    repeat apply za
    exact zb (zg hd (by simp; rfl) (by simp [zi, hfl, hds]))
   ·obtain ⟨l, hl, hl0, hp⟩ := htour b hb hbt
    have hblt : b.t < d.length := by omega
    have hpd : yT d b s = d.set b.t (yH l b.p s) := by unfold yT; rw [if_neg hbt, List.getD_eq_getElem?_getD, hl]; rfl
    have hl1 := hd1 l (List.mem_of_getElem? hl)
    rw [hpd]
    repeat apply za
    refine zN [] (by rfl) (by rfl) fun K Gc Gh hK hGc hGh X hX0 hX => ?_
    simp -implicitDefEqProofs [hX0, hX]
    try clear hX0 hX X
    refine hGc _ _ _ _ _ _ _ fun hsuf => ((ZfO d b.t l hdn (fun l hl => Nat.le_trans (hd1 l hl) (by decide)) hl hl0 _ _ jF).mono ?_).v
    rintro _ _ ⟨v7, w7, rfl, rfl⟩
    refine ⟨_, _, Zgs _ _ rfl, ?_⟩
    clear hGc hGh
    clear Gc Gh
    refine zI hsuf (D := []) (by rfl) fun Gc Gh hGc hGh X hX0 hX => ?_
    simp -implicitDefEqProofs [hX0, hX, Nat.add_assoc]
    clear hX0 hX X
    intros
    refine hK _ _ _ ?_
    clear hK hGc hGh
    clear K Gc Gh
    repeat apply za
    refine ze ?_
    (repeat apply za); refine pwn ?_; intros
    repeat apply za
    refine zj rfl ?_
    (repeat apply za); refine pwn ?_; intros
    repeat apply za
    refine zj (by simp; omega) ?_
    repeat apply za
    refine pwN [] hblt ?_
    intros
    repeat apply za
    refine xV (some [nx + 4, nx + 2]) (Row.pures [0, 1, 2, 3, 5, 6, 7, 8] (.alt 4 (.alt 9 (Row.pures [10, 11] (.alt 12 (.done) .stop)) .stop) .stop)) mixed (by rfl) (by rfl) (by rfl) fun K Gp Gc Gh hK hGp hGc hGh X hX0 hX1 hX2 hX => ?_
    simp -implicitDefEqProofs [hX0, hX1, hX2, hX, hblt]
    try clear hX0 hX1 hX2 hX X
    refine hGc _ _ _ _ _ _ _ ?_
    refine ((ZfK l b.p s hp hl1 (by simp)).mono ?_).v
    rintro _ _ ⟨rfl, rfl⟩
    have hcl : ((yH l b.p s).flatMap Enc.enc : List PV).length = (l.length + 1) * 2 := by
     have e := (ZP l s b.p).length_eq
     rw [xi, e]; simp
    have hLi : L (yH l b.p s) = .lst (l.length + 1) ((yH l b.p s).flatMap Enc.enc) := by
     have e := (ZP l s b.p).length_eq
     show PV.lst _ _ = _
     rw [e]; rfl
    rw [show l.take b.p ++ s :: l.drop b.p = yH l b.p s from rfl]
    generalize hcs : ((yH l b.p s).flatMap Enc.enc : List PV) = cs at *
    rw [qg _ (by omega) (by simp), Nat.add_sub_cancel_left]
    refine ⟨by simp [yf], ?_⟩
    clear hGp hGc hGh
    clear Gp Gc Gh
    refine ju fun Gp Gc Gh hGp hGc hGh X hX0 hX1 hX2 hX => ?_
    simp -implicitDefEqProofs [hX0, hX1, hX2, hX, hblt]
    try clear hX0 hX1 hX2 hX X
    refine ⟨by omega, ?_⟩
    refine hK _ _ _ ?_
    clear hK hGp hGc hGh
    clear K Gp Gc Gh
    rw [Zgu _ _ _ _ (by rw [qm]; exact hblt)]
    have e10 : yo (nx + 10) (w7 + 1) cs (.sl (nx + 10) (w7 + 1) 2 0 (l.length + 1)) = L (yH l b.p s) := by
     rw [Zan _ _ _ _ _ hcl.symm, hLi]
    have e9 : yo (nx + 9) v7 ((d.set b.t (yH l b.p s)).flatMap Enc.enc) (.sl (nx + 9) v7 1 0 d.length) = L (d.set b.t (yH l b.p s)) := by
     rw [Zan _ _ _ _ _ (by rw [qm]; simp)]
     show _ = PV.lst _ _
     rw [List.length_set]
    have n9 : yo (nx + 10) (w7 + 1) cs (.sl (nx + 9) v7 1 0 d.length) = .sl (nx + 9) v7 1 0 d.length := by
     simp only [yo]; rw [if_neg (by omega)]
    refine zC 10 rfl ?_
    simp only [List.map_cons, List.map_nil, List.set_cons_succ, List.set_cons_zero, qD, Zgr, e10, Zam, n9]
    refine zC 9 rfl ?_
    simp only [List.map_cons, List.map_nil, List.set_cons_succ, List.set_cons_zero, qD, e9]
    repeat apply za
    refine pwN [] (jn2 e9 n9) ?_
    intros
    repeat apply za
    exact zb (zg hd (by simp; rfl) (by simp [zi]))
open Go Go.Proofs
theorem Zap {α : Type} (f : Nat → List α) (m : Nat) : ∀ n, (∀ t, t < n → (f t).length ≤ m) → ((List.range n).flatMap f).length ≤ n * m
 | 0, _ => by simp
 | n + 1, h => by
  rw [List.range_succ, List.flatMap_append, List.length_append]
  have h1 := Zap f m n fun t ht => h t (by omega)
  have h2 := h n (by omega)
  simp only [List.flatMap_cons, List.flatMap_nil, List.append_nil]
  rw [Nat.add_mul, Nat.one_mul]; omega
theorem Zgx {d : Day} (h1 : d.length ≤ 1000000) (h2 : d.flatten.length ≤ 1000000) : (qG d).length ≤ 1000001 * 1000001 := by
 unfold qG
 refine Nat.le_trans (Zap _ 1000001 _ fun t _ => ?_) (Nat.mul_le_mul_right _ (by omega))
 rw [List.length_map, List.length_range, List.getD_eq_getElem?_getD]
 cases hq : d[t]? with
 | none => simp
 | some l =>
  have := (jZ (List.mem_of_getElem? hq)).length_le
  simp only [Option.getD_some]; omega
theorem Zgy {x : Inst} {d : Day} {s : Stop} (hd : zH x d = 0) (h1 : d.length ≤ 1000000) (h2 : d.flatten.length ≤ 1000000) : (yd x d s).length ≤ 1000001 * 1000001 := by
 rw [Zad hd]; exact Nat.le_trans (List.length_filterMap_le _ _) (Zgx h1 h2)
theorem Zgz (cs : List PV) (v : PV) (h : 0 < cs.length) : zJ cs (cs.length - 1) [v] = cs.set (cs.length - 1) v := by
 unfold zJ
 rw [List.set_eq_take_append_cons_drop, if_pos (by omega)]; simp
theorem Zaq : ∀ (l : List Int) (k : Nat) (v : Int), (l.flatMap Enc.enc : List PV).set k (I v) = (l.set k v).flatMap Enc.enc
 | [], k, v => rfl
 | a :: l, 0, v => rfl
 | a :: l, k + 1, v => by
  rw [List.set_cons_succ, List.flatMap_cons, List.flatMap_cons, ← Zaq l k v]
  rfl
theorem ZgA (st : List Int × Int) (p : Spot) : (qX st p).1.length ≤ st.1.length + 1 := by
 unfold qX; split <;> simp
def J0 (st : List Int × Int) : Prop := st.2 = -1 ∨ 0 < st.1.length
theorem ZgB {st : List Int × Int} (h : J0 st) (p : Spot) : J0 (qX st p) := by
 unfold qX
 split
 ·exact .inr (by simp)
 ·rename_i e
  rcases h with h | h
  ·exfalso; simp only [ne_eq] at e; omega
  ·exact .inr (by simpa using h)
set_option maxRecDepth 20000 in
set_option maxHeartbeats 1600000 in
theorem ZgC (x : Inst) (d : Day) (s : Stop) (hx : x.cust.length ≤ 1048576) (hdo : DayOk d) (h0 : zH x d = 0) (h1 : d.length ≤ 1000000) (h2 : d.flatten.length ≤ 1000000) : Pure Tryz.prog 266 [.agg (xF x d), .agg [I s.c, I s.q]] (L (uU x d s)) := by
 have hit := Zal x d s hx hdo (by omega)
 have hfold := Zga (s := s) h0
 have hlen := Zgy (s := s) h0 h1 h2
 have hml := Zgm x d s (d.length + 1)
 have hsF := VL (xF x d) s rfl
 unfold uU
 rw [← hfold] at hml ⊢
 clear hfold
 generalize yd x d s = xs at *
 obtain ⟨on, tw, fs, bd, ls, ws, hlk⟩ : ∃ on tw fs bd ls ws, xF x d = jY x d on tw fs bd ls ws := ⟨_, _, _, _, _, _, rfl⟩
 rw [hlk] at hit hsF ⊢
 clear hlk
 refine pwe Tryz.func266 Tryz.ntmps266 Tryz.results266 fun S nx hd => ?_
 repeat apply za
 refine pwn ?_
 intro v0 v1
 repeat apply za
 refine pwn ?_
 intro v2
 repeat apply za
 refine pwn ?_
 intro v3
 repeat apply za
 refine pwn ?_
 refine pwc hsF ?_
 intros
 refine qa 2 0 3 1 rfl rfl fun v4 => ?_
 repeat apply za
 refine ze (Zv (xs := xs.map xG) (σ := (List Int × Int) × Nat) (fun i st => st.1 = (xs.take i).foldl qX ([], -1) ∧ J0 st.1 ∧ st.1.1.length ≤ i ∧ i ≤ xs.length) [(2, .ptr nx v0 0), (3, .ptr (nx + 1) v1 0), (5, .ptr (nx + 2) v2 0), (6, .ptr (nx + 3) v3 0)] (fun _ => S)
  (fun ((l, last), v4) => [.cells v0 149 (jY x d on tw fs bd ls ws), .cells v1 50 [I s.c, I s.q], .cells v2 54 [.sl (nx + 4) v4 1 0 l.length], .cells v3 3 [I last], .cells v4 3 (l.flatMap Enc.enc)]) (([], -1), v4)
  hit rfl (by intro x hx; obtain ⟨y, _, rfl⟩ := List.mem_map.1 hx; rfl) (by decide) (by simp) ⟨rfl, .inl rfl, by simp, by simp⟩ rfl (by simp) (by simp) ?_ ?_)
 ·rintro lp i ⟨⟨l, last⟩, v4⟩ more y ⟨hst, hok, hli, hi⟩ hy
  simp only at hst hok hli hi ⊢
  rw [List.getElem?_map] at hy
  obtain ⟨p, hp, rfl⟩ := Option.map_eq_some_iff.1 hy
  have hsucc := JZ (f := qX) (b := ([], -1)) hp
  rw [← hst] at hsucc
  have hok2 := ZgB hok p
  have hln2 := ZgA (l, last) p
  simp only at hln2
  have hil := (List.getElem?_eq_some_iff.1 hp).1
  have hdef : qX (l, last) p = qX (l, last) p := rfl
  conv at hdef => rhs; unfold qX
  simp only at hdef
  have hlf : (l.flatMap Enc.enc : List PV).length = l.length := qk l
  have hlt : (l.flatMap Enc.enc : List PV).take l.length = l.flatMap Enc.enc := List.take_of_length_le (by omega)
  repeat apply za
  refine pwn ?_
  intro v5
  refine ze ?_
  (repeat apply za); refine pwn ?_; intros
  by_cases hpl : (p.t : Int) = last
  ·have hl0 : 0 < l.length := by
    rcases hok with e | e
    ·simp only at e; omega
    ·exact e
   obtain ⟨m, hm⟩ : ∃ m, l.length = m + 1 := ⟨l.length - 1, by omega⟩
   obtain ⟨z, tz, z1, z2, z3, z0⟩ := el1 rfl l m (by omega)
   rw [if_neg (by simp [hpl])] at hdef
   have hgz : l.getD (l.length - 1) 0 = z := by rw [hm, Nat.add_sub_cancel, List.getD_eq_getElem?_getD, z1]; rfl
   rw [hgz] at hdef
   have wm : IntKind.i64.wrap ((l.length : Int) - 1) = (m : Int) := by rw [wr _ (by omega) (by omega)]; omega
   have hml1 : m < l.length := by omega
   have hml2 : 1 ≤ l.length - m := by omega
   have hsp := Zgz (l.flatMap Enc.enc) (I (if p.m < z then p.m else z)) (by omega)
   rw [hlf, Zaq] at hsp
   have hmin : vL z p.m = if p.m < z then p.m else z := rfl
   repeat apply za
   refine zj (by simp [hpl]) ?_
   refine zd ?_
   rw [show l.length - 1 = m by omega] at hsp
   repeat apply za
   refine pwY (some [nx + 2, nx + (more.length + 5)]) (Row.pures [0, 1, 2, 3, 4, 5, 6, 7, 8, 10, 11] (.alt 9 (Row.pures [12, 13] (.alt 14 (.done) .stop)) .stop)) mixed (jn6 wm hml1 hml2 z0 hmin hlf) ?_
   refine ⟨by omega, ?_⟩
   intros
   simp only [qi]
   rw [hm, Nat.add_sub_cancel] at hdef
   rw [hdef] at hsucc hok2
   refine jG ((l.set m (if p.m < z then p.m else z), last), v4) [_] ⟨hsucc.symm, hok2, by simp; omega, by omega⟩ rfl (by simp [hsp]; rfl)
  ·rw [if_pos hpl] at hdef
   rw [hdef] at hsucc hok2 hln2
   have w0 : IntKind.i64.wrap (l.length : Int) = (l.length : Int) := wr _ (by omega) (by omega)
   have w2 : (l.length : Int) < (l.length : Int) + 1 := by omega
   have hmin : vL p.m p.m = p.m := by unfold vL; split <;> rfl
   have hat : (l.flatMap Enc.enc ++ [I p.m] : List PV)[l.length]? = some (I p.m) := by rw [List.getElem?_append_right (by omega), hlf, Nat.sub_self]; rfl
   have hdl : (l.flatMap Enc.enc ++ [I p.m] : List PV).drop l.length = [I p.m] := by rw [← hlf, List.drop_left]
   have hspl : zJ (l.flatMap Enc.enc ++ [I p.m] : List PV) l.length [I p.m] = l.flatMap Enc.enc ++ [I p.m] := by
    unfold zJ
    rw [← hlf, List.take_left, List.drop_of_length_le (by simp)]; simp
   repeat apply za
   refine zh (by simp [hpl]) ?_
   repeat apply za
   refine pwY (some [nx + (more.length + 5)]) (Row.pures [1, 2, 3, 5, 6] (.alt 0 (.alt 4 (.alt 7 (.alt 8 (.done) .stop) .stop) .stop) .stop)) mixed (jn2 hlf hlt) ?_
   refine ⟨by omega, ?_⟩
   intros
   repeat apply za
   refine pwY (some [nx + 2, nx + (more.length + 5)]) (Row.pures [0, 1, 2, 3, 4, 5, 6, 7, 8, 10, 11] (.alt 9 (Row.pures [12, 13] (.alt 14 (.done) .stop)) .stop)) mixed (jn5 w0 w2 hmin hat hlf) ?_
   intros
   simp only [qi]
   refine jG ((l ++ [p.m], (p.t : Int)), v4 + 1) [_] ⟨hsucc.symm, hok2, by simp; omega, by omega⟩ rfl (by simp [hspl]; rfl)
 ·rintro ⟨⟨l, last⟩, v4⟩ ⟨hst, -⟩
  simp only [List.length_map, List.take_length] at hst ⊢
  rw [← hst] at hml ⊢
  simp only at hml ⊢
  have hz4 := vi l
  repeat apply za
  refine zN [] (by rfl) (by rfl) fun K Gc Gh hK hGc hGh X hX0 hX => ?_
  simp -implicitDefEqProofs [hX0, hX]
  try clear hX0 hX X
  refine hGc _ _ _ _ _ _ _ fun hsuf => ((YM l (by simp) (by omega)).mono ?_).v
  rintro _ _ rfl
  refine ⟨_, _, qg _ (by omega) (by simp), ?_⟩
  clear hGc hGh
  clear Gc Gh
  refine zI hsuf (D := []) (by rfl) fun Gc Gh hGc hGh X hX0 hX => ?_
  simp -implicitDefEqProofs [hX0, hX, (show nx + 4 - nx = 4 by omega)]
  clear hX0 hX X
  intros
  refine hK _ _ _ ?_
  clear hK hGc hGh
  clear K Gc Gh
  generalize zZ l = c at *
  rw [← hz4]
  refine zC 4 rfl ?_
  (repeat apply za); refine pwn ?_; intros
  repeat apply za
  exact zb (zg hd (by simp; rfl) rfl)
end Go.Proofs.YtaiplainginmaaaGreat.Pv
