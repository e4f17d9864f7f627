/- A part of the proof of the statement that the last text of this claim proves; no condition is added. Packed by a program of the prover. -/
import Derived.Test.YtaiplainginmaaaGreatP3
namespace Go.Proofs.YtaiplainginmaaaGreat.Pv
open Go
theorem Vb {vs : Array Value} (h : 2 = vs.size) : ∃ u v, vs = #[u, v] := by
 match vs, h with
 | ⟨[u, v]⟩, _ => exact ⟨u, v, rfl⟩
theorem Zet {C : Ctx} {S : Store} {w : World} {v : Value} (h : Rel C S w (.sc (.slice none 0 0)) v) : v = .slice none 0 0 := by cases h; rfl
theorem Zeu (n : Nat) (h0 : 0 < n) (hn : n ≤ 1048576) (S : Store) (nx : Nat) (hd : zF nx S) :
  Spec Tryz.prog 277 [.sc (.slice none 0 0), I n] S (fun p S' => ∃ v, p = .sl nx v 2 0 0 ∧ S' = S.set nx (.cells v 50 [])) := by
 refine ⟨yG Tryz.func277 (by rfl) rfl, ?_⟩
 intro C w vs hS hl hr
 obtain ⟨u, v, rfl⟩ := Vb hl
 obtain rfl := Zet (hr 0 _ u rfl rfl)
 obtain rfl := vO (hr 1 _ v rfl rfl)
 obtain ⟨i0, hi0⟩ := Option.isSome_iff_exists.1 i50
 have hz := z50
 have hc := c50
 have hb := b50
 simp only [Program.zeroOf, Program.cellsOf, Program.bytesOf', hi0, Option.bind_some, Option.map_some, Option.getD_some, Option.some.injEq] at hz hc hb
 refine (Tryz.slices_Grow_stop i0 _ hi0 hz (by omega) n w h0 (by rw [hb]; omega) (by omega)).mono ?_
 rintro e w' ⟨rfl, rfl⟩
 have hfr : Fresh C S nx C.clock := .clock C (hd nx (Nat.le_refl _))
 obtain ⟨d1, d2⟩ := hS.drew
 obtain ⟨t1, t2⟩ := d1.object' hfr 50 ((#[] : Array Value) ++ Builtin.zeroCells (Value.agg #[.int .i64 0, .int .i64 0]).cells (0 + n - 0) ++ Builtin.zeroCells (Value.agg #[.int .i64 0, .int .i64 0]).cells (grownCap w (0 + n) 0 50 - (0 + n))) [] (by simp) (fun i v hi => by simp at hi) (fun i p v hp => by simp at hp)
 have hge := grownCap_ge w (0 + n) 0 50
 simp only [Nat.zero_add] at hge
 refine ⟨_, _, _, _, rfl, ⟨C.clock, rfl, rfl⟩, Zd C S w _ _ _ _ _ _ _ _ rfl (Nat.zero_le _) (Nat.zero_le _) (grownCap_le_maxLen w _ _ _ (by unfold maxLen; omega)) ?_, t1, d2.trans t2⟩
 simp only [Array.size_append, size_zeroCells]
 simp [Value.cells]
 omega
set_option maxRecDepth 20000 in
theorem Zev (ls : List (List Stop)) (hls : ls.length ≤ 1048576) (h0 : 0 < ls.flatten.length) (hn : ls.flatten.length ≤ 1048576) : Pure Tryz.prog 265 [L ls] (L ls.flatten) := by
 refine pwe Tryz.func265 Tryz.ntmps265 Tryz.results265 fun S nx hd => ?_
 (repeat apply za); refine pwn ?_; intros
 (repeat apply za); refine pwn ?_; intros
 (repeat apply za); refine pwn ?_; intros
 repeat apply za
 refine ze (zq (fun s : Nat × Nat => s.1 ≤ ls.length ∧ s.2 = (ls.take s.1).flatten.length) (fun (k, n) => [(0, L ls), (3, I (n : Int)), (9, L ls), (10, I ls.length), (11, I k)]) (fun _ => []) (fun s => ls.length - s.1) (0, 0) [] ⟨by simp, by simp⟩ (by simp) (by simp) ?_)
 rintro ⟨k, n⟩ ⟨hk, ho⟩
 simp only at hk ho ⊢
 (repeat apply za); refine pwn ?_; intros
 repeat apply za
 refine zk rfl (fun hc => ?_) (fun hc => ?_)
 ·simp at hc
  obtain ⟨t, tl, a1, a2, a3, e0⟩ := el1 rfl ls k hc
  have hs1 : (ls.take (k + 1)).flatten.length = n + t.length := by rw [a3, ho]; simp
  have hs2 : (ls.take (k + 1)).flatten.length ≤ ls.flatten.length := by
   conv => rhs; rw [← List.take_append_drop (k + 1) ls, List.flatten_append, List.length_append]
   omega
  have w1 : IntKind.i64.wrap ((n : Int) + (t.length : Nat)) = (n : Int) + (t.length : Nat) := wr _ (by omega) (by omega)
  have w2 : ¬ ((n : Int) + (t.length : Nat) < 0) := by omega
  refine zb (za (ze ?_))
  repeat apply za
  refine pwN [] (jn2 e0 hc) ?_
  intros
  repeat apply za
  refine pwN [] w1 ?_
  intros
  repeat apply za
  refine pwN [] w2 ?_
  intros
  repeat apply za
  refine zi rfl ?_
  refine zb ?_
  (repeat apply za); refine pwn ?_; intros
  exact zh (k + 1, n + t.length) [] ⟨hc, hs1.symm⟩ (by simp; omega) (by simp [wrN k (by omega)]) rfl (by simp)
 ·simp at hc
  obtain rfl : k = ls.length := by omega
  rw [List.take_length] at ho
  rw [← ho] at h0
  have hn' : n ≤ 1048576 := by omega
  clear ho
  refine zo ?_
  repeat apply za
  refine zM [] (by rfl) (by rfl) fun K Gc Gh hK hGc hGh X hX0 hX => ?_
  simp -implicitDefEqProofs [hX0, hX]
  try clear hX0 hX X
  refine hGc _ _ _ _ _ _ _ fun hsuf => ((Zeu n h0 hn' _ _ qi).mono ?_).v
  rintro _ _ ⟨v1, rfl, rfl⟩
  refine ⟨_, _, qh _, ?_⟩
  clear hGc hGh
  clear Gc Gh
  refine zK hsuf (D := []) (by rfl) fun Gc Gh hGc hGh X hX0 hX => ?_
  simp -implicitDefEqProofs [hX0, hX]
  clear hX0 hX X
  intros
  refine hK _ _ _ ?_
  clear hK hGc hGh
  clear K Gc Gh
  (repeat apply za); refine pwn ?_; intros
  repeat apply za
  refine ze (zq (fun s : Nat × List Stop × Nat => s.1 ≤ ls.length ∧ s.2.1 = (ls.take s.1).flatten) (fun (k, out, v) => [(6, .sl nx v 2 0 out.length), (25, L ls), (26, I ls.length), (27, I k)]) (fun (k, out, v) => [.cells v 50 (out.flatMap Enc.enc)]) (fun s => ls.length - s.1) (0, [], v1) [] ⟨by simp, by simp⟩ (by simp) (by simp) ?_)
  rintro ⟨k, out, v⟩ ⟨hk, ho⟩
  simp only at hk ho ⊢
  (repeat apply za); refine pwn ?_; intros
  repeat apply za
  refine zk rfl (fun hc => ?_) (fun hc => ?_)
  ·simp at hc
   obtain ⟨t, tl, a1, a2, a3, e0⟩ := el1 rfl ls k hc
   have hs1 : (ls.take (k + 1)).flatten = out ++ t := by rw [a3, ho]; simp
   have hs2 : (ls.take (k + 1)).flatten.length ≤ ls.flatten.length := by
    conv => rhs; rw [← List.take_append_drop (k + 1) ls, List.flatten_append, List.length_append]
    omega
   rw [hs1] at hs2
   simp only [List.length_append] at hs2
   refine zb (za (ze ?_))
   repeat apply za
   refine pwN [] (jn2 e0 hc) ?_
   intros
   repeat apply za
   refine pwn ?_
   refine ⟨by omega, ?_⟩
   intros
   (repeat apply za); refine pwn ?_; intros
   exact zh (k + 1, out ++ t, v + 1) [] ⟨hc, hs1.symm⟩ (by simp; omega) (by simp [wrN k (by omega)]) rfl (by simp)
  ·simp at hc
   obtain rfl : k = ls.length := by omega
   rw [List.take_length] at ho
   refine zo ?_
   refine zC 0 rfl ?_
   (repeat apply za); refine pwn ?_; intros
   repeat apply za
   exact zd (zg hd (by simp; rfl) (by simp [zl, ho]))
open Go Hp
def xz (T : Day) (c : Int) : Nat := T.findIdx fun t => t.any fun s => decide (s.c = c)
def wu (a : zn) : Option Int := a[a.length - 1]?.map (·.c)
def wN (b : zn) : Option Int := b[0]?.map (·.c)
def yf (x : Inst) (num : Int) (p : Pr) (i k : Nat) (a b : zn) : Bool :=
 decide (i ≠ k) && decide (wu a = some p.a) && decide (wN b = some p.b) && !(decide (p.s ≤ 0) && decide (num ≤ x.veh)) && decide (zp x (a ++ b) = 0)
def uC (x : Inst) (st : Day × Int) (p : Pr) (i k : Nat) : Day × Int :=
 bif yf x st.2 p i k (st.1.getD i []) (st.1.getD k []) then ((st.1.set i (st.1.getD i [] ++ st.1.getD k [])).set k [], st.2 - 1) else st
def yu (x : Inst) (st : Day × Int) (p : Pr) : Day × Int := uC x st p (xz st.1 p.a) (xz st.1 p.b)
def JA (x : Inst) (ss : List Stop) : Day × Int := (yd x (ss.map (·.c))).foldl (yu x) (ss.map fun s => [s], (ss.length : Int))
def qq (x : Inst) (ss : List Stop) : Day := (JA x ss).1.filter fun t => !t.isEmpty
structure JI (ss : List Stop) (T : Day) (g : Int → Option Int) : Prop where
 len : T.length = ss.length
 perm : T.flatten.Perm ss
 g : ∀ (i : Nat) t s, T[i]? = some t → s ∈ t → g s.c = some (i : Int)
theorem JI.place {ss : List Stop} {T : Day} {g : Int → Option Int} (h : JI ss T g) {i : Nat} {t : zn} {s : Stop} (hi : T[i]? = some t) (hs : s ∈ t) : xz T s.c = i := by
 have hex : ∃ t ∈ T, (t.any fun s' => decide (s'.c = s.c)) = true := ⟨t, List.mem_of_getElem? hi, List.any_eq_true.2 ⟨s, hs, by simp⟩⟩
 have hlt : xz T s.c < T.length := List.findIdx_lt_length_of_exists hex
 have hq := List.findIdx_getElem (w := hlt)
 obtain ⟨s', h1, h2⟩ := List.any_eq_true.1 hq
 have h2' : s'.c = s.c := by simpa using h2
 have e1 := h.g (xz T s.c) _ s' (List.getElem?_eq_getElem hlt) h1
 have e2 := h.g i t s hi hs
 rw [h2', e2] at e1
 have := Option.some.inj e1
 omega
theorem JI.there {ss : List Stop} {T : Day} {g : Int → Option Int} (h : JI ss T g) {c : Int} (hc : c ∈ ss.map (·.c)) : ∃ (i : Nat) (t : zn) (s : Stop), T[i]? = some t ∧ s ∈ t ∧ s.c = c ∧ g c = some (i : Int) ∧ xz T c = i := by
 obtain ⟨s, hs, rfl⟩ := List.mem_map.1 hc
 obtain ⟨t, ht, hst⟩ := List.mem_flatten.1 (h.perm.symm.subset hs)
 obtain ⟨i, hi⟩ := List.mem_iff_getElem?.1 ht
 exact ⟨i, t, s, hi, hst, rfl, h.g i t s hi hst, h.place hi hst⟩
theorem Zy {T : Day} : ∀ {i : Nat} {a : zn}, T[i]? = some a → T.flatten.Perm (a ++ (T.set i []).flatten) := by
 induction T with
 | nil => intro i a h; simp at h
 | cons t T ih =>
  intro i a h
  cases i with
  | zero => simp at h; subst h; simp
  | succ i =>
   simp only [List.getElem?_cons_succ] at h
   simp only [List.flatten_cons, List.set_cons_succ]
   refine ((ih h).append_left t).trans ?_
   rw [← List.append_assoc, ← List.append_assoc]
   exact List.perm_append_comm.append_right _
theorem Zew {T : Day} {i : Nat} (b : zn) (h : i < T.length) : (T.set i b).flatten.Perm (b ++ (T.set i []).flatten) := by
 have := Zy (T := T.set i b) (i := i) (a := b) (by simp [h])
 rwa [List.set_set] at this
theorem Zex {T : Day} {i k : Nat} {a b : zn} (hi : T[i]? = some a) (hk : T[k]? = some b) (hne : i ≠ k) : ((T.set i (a ++ b)).set k []).flatten.Perm T.flatten := by
 have hil := (List.getElem?_eq_some_iff.1 hi).1
 rw [List.set_comm _ _ hne]
 have h1 := Zew (T := T.set k []) (i := i) (a ++ b) (by simpa using hil)
 have h2 := Zy hk
 have h3 := Zy (T := T.set k []) (i := i) (a := a) (by rw [List.getElem?_set_ne (fun e => hne e.symm)]; exact hi)
 refine h1.trans (List.Perm.symm ?_)
 refine h2.trans ((h3.append_left b).trans ?_)
 rw [← List.append_assoc]
 exact List.perm_append_comm.append_right _
def gTo (g : Int → Option Int) (b : zn) (i : Nat) (j : Nat) : Int → Option Int := fun c => if c ∈ (b.take j).map (·.c) then some (i : Int) else g c
theorem Zey (g : Int → Option Int) (b : zn) (i : Nat) : gTo g b i 0 = g := by funext c; simp [gTo]
theorem Zez {g : Int → Option Int} {b : zn} {i j : Nat} {s : Stop} (h : b.take (j + 1) = b.take j ++ [s]) : yA (gTo g b i j) s.c (some (i : Int)) = gTo g b i (j + 1) := by
 funext c
 simp only [yA, gTo, h, List.map_append, List.mem_append, List.map_cons, List.map_nil, List.mem_singleton]
 by_cases e : c = s.c
 ·simp [e]
 ·simp [e]
theorem JI.join {ss : List Stop} {T : Day} {g : Int → Option Int} (h : JI ss T g) {i k : Nat} {a b : zn} (hi : T[i]? = some a) (hk : T[k]? = some b) (hne : i ≠ k) : JI ss ((T.set i (a ++ b)).set k []) (gTo g b i b.length) := by
 have hil := (List.getElem?_eq_some_iff.1 hi).1
 have hkl := (List.getElem?_eq_some_iff.1 hk).1
 refine ⟨by simp [h.len], (Zex hi hk hne).trans h.perm, fun i' t s ht hs => ?_⟩
 unfold gTo
 rw [List.take_length]
 by_cases e1 : k = i'
 ·subst e1
  rw [List.getElem?_set_self (by simpa using hkl)] at ht
  cases ht; cases hs
 ·rw [List.getElem?_set_ne e1] at ht
  by_cases e2 : i = i'
  ·subst e2
   rw [List.getElem?_set_self hil] at ht
   cases ht
   by_cases e3 : s.c ∈ b.map (·.c)
   ·rw [if_pos e3]
   ·rw [if_neg e3]
    rcases List.mem_append.1 hs with hs | hs
    ·exact h.g i a s hi hs
    ·exact absurd (List.mem_map.2 ⟨s, hs, rfl⟩) e3
  ·rw [List.getElem?_set_ne e2] at ht
   have h1 := h.g i' t s ht hs
   rw [if_neg]
   ·exact h1
   ·intro e3
    obtain ⟨s', hs', e4⟩ := List.mem_map.1 e3
    have h2 := h.g k b s' hk hs'
    rw [e4, h1] at h2
    have := Option.some.inj h2
    exact e1 (by omega)
theorem JI.nil : JI [] [] (fun _ => none) := ⟨rfl, .refl _, fun i t s h => by simp at h⟩
theorem JI.snoc {ss : List Stop} {T : Day} {g : Int → Option Int} (h : JI ss T g) (s : Stop) (hs : s.c ∉ ss.map (·.c)) : JI (ss ++ [s]) (T ++ [[s]]) (yA g s.c (some (ss.length : Int))) := by
 refine ⟨by simp [h.len], by simpa using h.perm.append_right [s], fun i t s' ht hst => ?_⟩
 unfold yA
 rcases Nat.lt_or_ge i T.length with hl | hl
 ·rw [List.getElem?_append_left hl] at ht
  have h1 : s' ∈ ss := h.perm.subset (List.mem_flatten.2 ⟨t, List.mem_of_getElem? ht, hst⟩)
  rw [if_neg]
  ·exact h.g i t s' ht hst
  ·intro e; exact hs (e ▸ List.mem_map.2 ⟨s', h1, rfl⟩)
 ·rw [List.getElem?_append_right hl] at ht
  have hi : i - T.length = 0 := by
   have := (List.getElem?_eq_some_iff.1 ht).1
   simp at this; omega
  rw [hi] at ht
  simp at ht
  subst ht
  simp at hst
  subst hst
  rw [if_pos rfl, ← h.len]
  congr 1
  have : i = T.length := by omega
  rw [this]
open Go Hp
theorem YV {P : Program} {r : Rd} {n N : Nat} {Q : Exit → (Nat → PV) → Store → Prop} {F : Nat → PV} {c : Code} {T : Store} {o ver e0 : Nat} {cs : List PV} (i : Nat) (hs : T o = .cells ver e0 cs) (hi : cs[i]? = some (.sc (.slice none 0 0)))
  (h : PW P r n N c Q F (T.set o (.cells ver e0 (cs.set i (.lst 0 []))))) : PW P r n N c Q F T := by
 refine wY (F' := F) (S' := T.set o (.cells ver e0 (cs.set i (.lst 0 [])))) (fun C w a st => ?_) h
 have := st.sim.relabel (cs' := cs.set i (.lst 0 [])) hs (by simp) (by
  intro k p' hp'
  rw [List.getElem?_set] at hp'
  split at hp'
  ·rename_i hij
   subst hij
   split at hp'
   ·cases hp'
    refine .inr ⟨_, hi, fun v hv => ?_⟩
    cases hv
    exact .lst0
   ·cases hp'
  ·exact .inl hp')
 exact ⟨C, ⟨this.1, st.size, fun k => (st.fr k).mono this.2, r.keep this.2 st.v⟩, this.2⟩
abbrev uD (x : Inst) (tid tv n : Nat) (num : Int) (mid mv : Nat) : List PV := [I x.days, I x.veh, I x.cap, I x.len, L x.cust, L x.dist, .sl tid tv 1 0 n, I num, .mp mid mv]
theorem YW (cs : List PV) (k : Nat) (x : PV) (h : k < cs.length) : zH cs k [x] = cs.set k x := by
 rw [zH, List.set_eq_take_append_cons_drop, if_pos h]; simp
theorem Vc (T : Day) : T.flatMap Enc.enc = T.map fun t => L t := by induction T <;> simp_all
theorem yO {S : Store} {nx id : Nat} {o : Ob} (hd : zF nx S) (h : S id = o) (hne : o ≠ .dead) : id < nx := by
 rcases Nat.lt_or_ge id nx with q | q
 ·exact q
 ·rw [hd id q] at h; exact absurd h.symm hne
set_option maxRecDepth 20000 in
set_option maxHeartbeats 1600000 in
theorem ZeA (x : Inst) (ss : List Stop) (T : Day) (g : Int → Option Int) (num : Int) (es : List (Value × PV)) {S : Store} {jid jv tid tv mid mv : Nat} (hx : x.cust.length ≤ 1048576) (hss : ss.length ≤ 1000) (hnum : -1048576 ≤ num ∧ num ≤ 1048576) (hI : JI ss T g) (hm : MapIs yr I es g)
  (hj : S jid = .cells jv 290 (uD x tid tv ss.length num mid mv)) (ht : S tid = .cells tv 46 (T.flatMap Enc.enc)) (hmid : S mid = .map mv es) (d1 : jid ≠ tid) (d2 : jid ≠ mid) (d3 : tid ≠ mid)
  (p : Pr) (hpa : p.a ∈ ss.map (·.c)) (hpb : p.b ∈ ss.map (·.c)) :
  Spec Tryz.prog 246 [.ptr jid jv 0, .agg [I p.a, I p.b, I p.s]] S (fun _ S' => ∃ es' g', MapIs yr I es' g' ∧ JI ss (yu x (T, num) p).1 g' ∧
   S' = ((S.set jid (.cells jv 290 (uD x tid tv ss.length (yu x (T, num) p).2 mid mv))).set tid (.cells tv 46 ((yu x (T, num) p).1.flatMap Enc.enc))).set mid (.map mv es')) := by
 obtain ⟨i, a, sa, hia, hsa, hsac, hga, hpi⟩ := hI.there hpa
 obtain ⟨k, b, sb, hkb, hsb, hsbc, hgb, hpk⟩ := hI.there hpb
 have hkey : KeyOk (.int .i64) yr := vR .i64
 obtain ⟨ra, fa1, fa2, fa3, fa4, fa5⟩ := hm.find hkey p.a
 obtain ⟨rb, fb1, fb2, fb3, fb4, fb5⟩ := hm.find hkey p.b
 obtain ⟨ja, rfl⟩ := fa3 _ hga
 obtain ⟨jb, rfl⟩ := fb3 _ hgb
 refine jm Tryz.func246 Tryz.ntmps246 Tryz.results246 fun nx hd => ?_
 have hlj : jid < nx := yO hd hj (by simp)
 have hlt : tid < nx := yO hd ht (by simp)
 have hlm : mid < nx := yO hd hmid (by simp)
 have xj := fun obs => zx (S := S) (obs := obs) hlj
 have xt := fun obs => zx (S := S) (obs := obs) hlt
 have xm := fun obs => zx (S := S) (obs := obs) hlm
 repeat apply za
 refine pwn ?_
 intro v0
 have hil := (List.getElem?_eq_some_iff.1 hia).1
 have hkl := (List.getElem?_eq_some_iff.1 hkb).1
 have hgi : T.getD i [] = a := by rw [List.getD_eq_getElem?_getD, hia]; rfl
 have hgk : T.getD k [] = b := by rw [List.getD_eq_getElem?_getD, hkb]; rfl
 have hdef : yu x (T, num) p = bif yf x num p i k a b then ((T.set i (a ++ b)).set k [], num - 1) else (T, num) := by
  unfold yu uC
  simp only [hpi, hpk, hgi, hgk]
 have hstay : yf x num p i k a b = false → ∃ es' g', MapIs yr I es' g' ∧ JI ss (yu x (T, num) p).1 g' ∧
   S = ((S.set jid (.cells jv 290 (uD x tid tv ss.length (yu x (T, num) p).2 mid mv))).set tid (.cells tv 46 ((yu x (T, num) p).1.flatMap Enc.enc))).set mid (.map mv es') := by
  intro hc
  rw [hdef, hc]
  refine ⟨es, g, hm, hI, ?_⟩
  simp only [cond_false]
  rw [ux S jid _ hj, ux S tid _ ht, ux S mid _ hmid]
 have hal2 : a.length ≤ 1000 := by
  have h1 := (Zy hia).length_eq
  have h2 := hI.perm.length_eq
  rw [List.length_append] at h1
  omega
 have hbl2 : b.length ≤ 1000 := by
  have h1 := (Zy hkb).length_eq
  have h2 := hI.perm.length_eq
  rw [List.length_append] at h1
  omega
 obtain ⟨m, hal⟩ : ∃ m, a.length = m + 1 := ⟨a.length - 1, by cases a with | nil => cases hsa | cons _ _ => simp⟩
 have hb0 : 0 < b.length := by cases b with | nil => cases hsb | cons _ _ => simp
 obtain ⟨la, tla, la1, la2, la3, la4, la5⟩ := el 2 rfl a m (by omega)
 obtain ⟨fb, b', hbc⟩ : ∃ fb b', b = fb :: b' := by cases b with | nil => cases hsb | cons x y => exact ⟨x, y, rfl⟩
 have hend : wu a = some la.c := by unfold wu; rw [hal, Nat.add_sub_cancel, la1]; rfl
 have hhead : wN b = some fb.c := by rw [hbc]; rfl
 obtain ⟨ai, tai, i1, i2, i3, i0⟩ := el1 rfl T i hil
 rw [hia] at i1; cases i1
 obtain ⟨bk, tbk, k1, k2, k3, k0⟩ := el1 rfl T k hkl
 rw [hkb] at k1; cases k1
 have hTl := hI.len
 have hil2 : i < ss.length := by omega
 have hkl2 : k < ss.length := by omega
 repeat apply za
 refine yc (nx := nx) (σ := Unit) (fun _ => True) (fun _ => [(0, .ptr jid jv 0), (3, .ptr nx v0 0), (4, I i), (5, I k)]) (fun _ => S) (fun _ => [.cells v0 185 [I p.a, I p.b, I p.s]]) ?_ ?_
 ·repeat apply za
  refine xH none (Row.pures [0, 1, 2, 3, 4, 5, 7, 8, 9, 10, 11, 12] (.alt 6 (Row.pures [14] (.alt 13 (Row.pures [15] .done) .stop)) (.alt 13 (.alt 6 (Row.pures [14, 15] .done) .stop) .stop))) mixed (by rfl) (by rfl) (by rfl) fun K Gp Gc Gh hK hGp hGc hGh X hX0 hX1 hX2 hX => ?_
  simp -implicitDefEqProofs [hX0, hX1, hX2, hX, xj, xt, xm, hj, ht, hmid]
  try clear hX0 hX1 hX2 hX X
  refine ⟨?_, ?_⟩
  ·refine hGh _ _ _ _ _ (by rfl) (uq rfl Tryz.underlying288 Tryz.underlying3 rfl rfl rfl ((xm _).trans hmid) fa1 z3 ?_)
   refine ⟨by simp [zV], ?_⟩
   clear hGp hGc hGh
   clear Gp Gc Gh
   refine qQ fun Gp Gc Gh hGp hGc hGh X hX0 hX1 hX2 hX => ?_
   simp -implicitDefEqProofs [hX0, hX1, hX2, hX]
   try clear hX0 hX1 hX2 hX X
   refine hGh _ _ _ _ _ (by rfl) (uq rfl Tryz.underlying288 Tryz.underlying3 rfl rfl rfl ((xm _).trans hmid) fb1 z3 ?_)
   refine ⟨by simp [zV], ?_⟩
   clear hGp hGc hGh
   clear Gp Gc Gh
   refine qQ fun Gp Gc Gh hGp hGc hGh X hX0 hX1 hX2 hX => ?_
   simp -implicitDefEqProofs [hX0, hX1, hX2, hX]
   try clear hX0 hX1 hX2 hX X
   refine hK _ _ _ ?_
   clear hK hGp hGc hGh
   clear K Gp Gc Gh
   exact zu () [] trivial (by simp [Zf]) rfl (by simp)
  ·refine hGh _ _ _ _ _ (by rfl) (uq rfl Tryz.underlying288 Tryz.underlying3 rfl rfl rfl ((xm _).trans hmid) fb1 z3 ?_)
   refine ⟨by simp [zV], ?_⟩
   clear hGp hGc hGh
   clear Gp Gc Gh
   refine qQ fun Gp Gc Gh hGp hGc hGh X hX0 hX1 hX2 hX => ?_
   simp -implicitDefEqProofs [hX0, hX1, hX2, hX]
   try clear hX0 hX1 hX2 hX X
   refine hGh _ _ _ _ _ (by rfl) (uq rfl Tryz.underlying288 Tryz.underlying3 rfl rfl rfl ((xm _).trans hmid) fa1 z3 ?_)
   refine ⟨by simp [zV], ?_⟩
   clear hGp hGc hGh
   clear Gp Gc Gh
   refine qQ fun Gp Gc Gh hGp hGc hGh X hX0 hX1 hX2 hX => ?_
   simp -implicitDefEqProofs [hX0, hX1, hX2, hX]
   try clear hX0 hX1 hX2 hX X
   refine hK _ _ _ ?_
   clear hK hGp hGc hGh
   clear K Gp Gc Gh
   exact zu () [] trivial (by simp [Zf]) rfl (by simp)
 intro _ _
 repeat apply za
 refine pwY none (Row.pures [0, 1, 2, 3, 4, 5, 6, 7, 8, 9, 10, 11, 12, 13, 14, 15] .done) mixed (jn6 xj xt hj ht i0 (jn4 k0 hil2 hkl2 hTl)) ?_
 intros
 have wm : IntKind.i64.wrap (m : Int) = m := wr _ (by omega) (by omega)
 have hm1 : m < a.length := by omega
 refine za ?_
 refine yc (nx := nx) (σ := Unit) (fun _ => ¬ i = k ∧ la.c = p.a ∧ fb.c = p.b) (fun _ => [(0, .ptr jid jv 0), (3, .ptr nx v0 0), (4, I i), (5, I k), (6, L a), (7, L b)]) (fun _ => S) (fun _ => [.cells v0 185 [I p.a, I p.b, I p.s]]) ?_ ?_
 ·by_cases h1 : i = k
  ·have hc : yf x num p i k a b = false := by simp [yf, h1]
   repeat apply za
   refine pwY none (Row.pures [0, 1, 2, 3, 4, 5, 6, 7, 8, 9, 10, 11, 12, 13, 14, 15, 16, 17, 18, 19, 20, 21, 22, 23] .done) mixed (jn2 h1 zr) ?_
   intros
   repeat apply za
   refine zj rfl ?_
   repeat apply za
   exact zd ⟨_, S, rfl, hstay hc, yg hd⟩
  have h1' : ¬ (i : Int) = (k : Int) := by omega
  have hm2 : (m : Int) < (m : Int) + 1 := by omega
  by_cases h2 : la.c = p.a
  case neg =>
   have hc : yf x num p i k a b = false := by simp [yf, hend, h2]
   repeat apply za
   refine pwY none (Row.pures [0, 1, 2, 3, 4, 5, 6, 7, 8, 9, 10, 11, 12, 13, 14, 15, 16, 17, 18, 19, 20, 21, 22, 23] .done) mixed (jn6 h1' h2 hal wm hm2 (jn3 la4 la5 zr)) ?_
   intros
   repeat apply za
   refine zj rfl ?_
   repeat apply za
   exact zd ⟨_, S, rfl, hstay hc, yg hd⟩
  by_cases h3 : fb.c = p.b
  case neg =>
   have hc : yf x num p i k a b = false := by simp [yf, hhead, h3]
   repeat apply za
   refine pwY none (Row.pures [0, 1, 2, 3, 4, 5, 6, 7, 8, 9, 10, 11, 12, 13, 14, 15, 16, 17, 18, 19, 20, 21, 22, 23] .done) mixed (jn6 h1' h2 h3 hal wm (jn5 hm2 la4 la5 hbc zr)) ?_
   intros
   repeat apply za
   refine zj rfl ?_
   repeat apply za
   exact zd ⟨_, S, rfl, hstay hc, yg hd⟩
  repeat apply za
  refine pwY none (Row.pures [0, 1, 2, 3, 4, 5, 6, 7, 8, 9, 10, 11, 12, 13, 14, 15, 16, 17, 18, 19, 20, 21, 22, 23] .done) mixed (jn6 h1' h2 h3 hal wm (jn5 hm2 la4 la5 hbc zr)) ?_
  intros
  repeat apply za
  refine zi rfl ?_
  refine zb ?_
  exact zu () [] ⟨h1, h2, h3⟩ (by simp [hal, hbc]) rfl (by simp)
 rintro _ ⟨h1, h2, h3⟩
 have hN0 : -9223372036854775808 ≤ num := by omega
 refine za ?_
 refine yc (nx := nx) (σ := Unit) (fun _ => ¬ (p.s ≤ 0 ∧ num ≤ x.veh)) (fun _ => [(0, .ptr jid jv 0), (3, .ptr nx v0 0), (4, I i), (5, I k), (6, L a), (7, L b)]) (fun _ => S) (fun _ => [.cells v0 185 [I p.a, I p.b, I p.s]]) ?_ ?_
 ·by_cases h4 : p.s ≤ 0
  ·by_cases h5 : num ≤ x.veh
   ·have hc : yf x num p i k a b = false := by simp [yf, h4, h5]
    repeat apply za
    refine pwY none (Row.pures [0, 1, 2, 3, 4, 5, 6, 7, 8, 9, 10, 11, 12, 13, 14] .done) mixed (jn5 xj hj h4 h5 zr) ?_
    intros
    repeat apply za
    refine zj rfl ?_
    repeat apply za
    exact zd ⟨_, S, rfl, hstay hc, yg hd⟩
   ·repeat apply za
    refine pwY none (Row.pures [0, 1, 2, 3, 4, 5, 6, 7, 8, 9, 10, 11, 12, 13, 14] .done) mixed (jn5 xj hj h4 h5 zr) ?_
    intros
    repeat apply za
    refine zi rfl ?_
    refine zb ?_
    exact zu () [] (by simp [h5]) (by simp) rfl (by simp)
  ·repeat apply za
   refine pwY none (Row.pures [0, 1, 2, 3, 4, 5, 6, 7, 8, 9, 10, 11, 12, 13, 14] .done) mixed (jn2 h4 zr) ?_
   intros
   repeat apply za
   refine zi rfl ?_
   refine zb ?_
   exact zu () [] (by simp [h4]) (by simp) rfl (by simp)
 intro _ h4
 have hcon := Zev [a, b] (by simp) (by simp; omega) (by simp; omega)
 rw [show [a, b].flatten = a ++ b from by simp] at hcon
 repeat apply za
 refine pwn ?_
 refine pwc hcon ?_
 intros
 refine za ?_
 refine yc (nx := nx) (σ := Unit) (fun _ => zp x (a ++ b) = 0) (fun _ => [(0, .ptr jid jv 0), (3, .ptr nx v0 0), (4, I i), (5, I k), (6, L a), (7, L b), (8, L (a ++ b))]) (fun _ => S) (fun _ => [.cells v0 185 [I p.a, I p.b, I p.s]]) ?_ ?_
 ·repeat apply za
  refine pwN [] (jn2 xj hj) ?_
  refine pwc (Zu x (a ++ b) hx (by simp; omega)) ?_
  intros
  by_cases h5 : zp x (a ++ b) = 0
  ·repeat apply za
   refine zi (by simp [h5]) ?_
   refine zb ?_
   exact zu () [] h5 (by simp) rfl (by simp)
  ·have hc : yf x num p i k a b = false := by simp [yf, h5]
   repeat apply za
   refine zj (by simp [h5]) ?_
   repeat apply za
   exact zd ⟨_, S, rfl, hstay hc, yg hd⟩
 intro _ h5
 have h4' : (decide (p.s ≤ 0) && decide (num ≤ x.veh)) = false := Bool.eq_false_iff.2 fun q => h4 (by simpa using q)
 have hjoin : yf x num p i k a b = true := by unfold yf; rw [h4', hend, hhead, h2, h3, h5]; simp [h1]
 rw [hdef, hjoin]
 simp only [cond_true]
 have yj := fun (o : Ob) obs => (zx (S := S.set mid o) (obs := obs) hlj).trans ((Store.set_other _ _ _ _ d2).trans hj)
 have ym := fun (o : Ob) obs => (zx (S := S.set mid o) (obs := obs) hlm).trans (Store.set_same _ _ _)
 (repeat apply za); refine pwn ?_; intros
 repeat apply za
 refine ze (qS (σ := Nat × List (Value × PV)) (fun s => s.1 ≤ b.length ∧ MapIs yr I s.2 (gTo g b i s.1)) (fun s => [(0, .ptr jid jv 0), (4, I i), (5, I k), (8, L (a ++ b)), (90, L b), (91, I b.length), (92, I s.1)]) (fun s => S.set mid (.map mv s.2)) (fun _ => [.cells v0 185 [I p.a, I p.b, I p.s]]) (fun s => b.length - s.1) (zu (0, es) [] ⟨by simp, by rw [Zey]; exact hm⟩ (by simp) (ux S mid _ hmid) (by simp)) ?_)
 rintro ⟨j, es2⟩ ⟨hjl, hm2'⟩
 simp only at hjl hm2' ⊢
 (repeat apply za); refine pwn ?_; intros
 repeat apply za
 refine zk rfl (fun hq => ?_) (fun hq => ?_)
 ·simp at hq
  obtain ⟨s, tl, a1, a2, a3, e1, e0⟩ := el 2 rfl b j hq
  obtain ⟨rs, f1, _, _, f4, _⟩ := hm2'.find hkey s.c
  have hnew := f4 (i : Int)
  rw [Zez a3] at hnew
  refine zb (za (ze ?_))
  repeat apply za
  refine pwN [] (jn3 e1 e0 hq) ?_
  intro v1
  repeat apply za
  refine xH (some [jid, nx + 1]) (Row.pures [0, 1, 2, 3, 4, 5, 6] (.alt 7 (.done) .stop)) mixed (by rfl) (by rfl) (by rfl) fun K Gp Gc Gh hK hGp hGc hGh X hX0 hX1 hX2 hX => ?_
  simp -implicitDefEqProofs [hX0, hX1, hX2, hX, yj]
  try clear hX0 hX1 hX2 hX X
  refine hGh _ _ _ _ _ (by rfl) (Zg (.inl rfl) Tryz.underlying288 Tryz.underlying3 rfl rfl rfl (ym _ _) f1 ?_)
  rw [xF _ hlm, Store.set_set]
  refine ⟨by simp [zV, yj], ?_⟩
  clear hGp hGc hGh
  clear Gp Gc Gh
  refine qQ fun Gp Gc Gh hGp hGc hGh X hX0 hX1 hX2 hX => ?_
  simp -implicitDefEqProofs [hX0, hX1, hX2, hX]
  try clear hX0 hX1 hX2 hX X
  refine hK _ _ _ ?_
  clear hK hGp hGc hGh
  clear K Gp Gc Gh
  (repeat apply za); refine pwn ?_; intros
  exact zh (j + 1, qb (yr s.c) (I i) es2 rs) [_] ⟨hq, hnew⟩ (by simp; omega) (by simp [wrN j (by omega)]) rfl (by simp; rfl)
 ·simp at hq
  obtain rfl : j = b.length := by omega
  refine zo ?_
  have yt1 := fun (o : Ob) obs => (zx (S := S.set mid o) (obs := obs) hlt).trans ((Store.set_other _ _ _ _ d3).trans ht)
  have yt2 := fun (o o' : Ob) obs => (zx (S := (S.set mid o).set tid o') (obs := obs) hlt).trans (Store.set_same _ _ _)
  have yj2 := fun (o o' : Ob) obs => (zx (S := (S.set mid o).set tid o') (obs := obs) hlj).trans ((Store.set_other _ _ _ _ d1).trans ((Store.set_other _ _ _ _ d2).trans hj))
  have hlen1 : (T.flatMap Enc.enc).length = ss.length := by rw [yD, hTl]
  have hs1 := YW (T.flatMap Enc.enc) i (L (a ++ b)) (by omega)
  have hs2 := YW ((T.flatMap Enc.enc).set i (L (a ++ b))) k (.sc (.slice none 0 0)) (by simp; omega)
  have hlt1 : ¬ nx ≤ tid := by omega
  have hlj1 : ¬ nx ≤ jid := by omega
  have wn : IntKind.i64.wrap (num - 1) = num - 1 := wr _ (by omega) (by omega)
  repeat apply za
  repeat apply za
  refine pwY (some [jid]) (Row.pures [0, 1, 2, 3, 4, 5, 6, 7, 8, 9, 10, 11] (.alt 12 (Row.pures [13] (.alt 14 (.done) .stop)) .stop)) mixed (jn6 yj yt1 yt2 yj2 hs1 (jn6 hs2 hil2 hkl2 hlen1 hlt1 hTl)) ?_
  refine ⟨by omega, by omega, ?_⟩
  intros
  have hcs : ((((T.flatMap Enc.enc).set i (L (a ++ b))).set k (.sc (.slice none 0 0))).set k (.lst 0 [])) = ((T.set i (a ++ b)).set k []).flatMap Enc.enc := by
   rw [List.set_set, Vc, Vc, List.map_set, List.map_set]
   rfl
  refine YV (o := tid) k (yt2 _ _ _) (by rw [List.getElem?_set_self (by simp; omega)]) ?_
  rw [xF _ hlt, Store.set_set, hcs]
  generalize ((T.set i (a ++ b)).set k []).flatMap Enc.enc = cs' at *
  repeat apply za
  refine pwN [] (jn3 yj2 hlj1 wn) ?_
  intros
  have e1 : ∀ (o o' o'' : Ob), ((S.set mid o).set tid o').set jid o'' = ((S.set jid o'').set tid o').set mid o := by
   intro o o' o''
   rw [Store.set_comm _ jid tid _ _ (fun e => d1 e.symm), Store.set_comm _ jid mid _ _ (fun e => d2 e.symm), Store.set_comm _ tid mid _ _ (fun e => d3 e.symm)]
  rw [e1]
  have hdd : ∀ (o o' o'' : Ob), zF nx (((S.set jid o'').set tid o').set mid o) := by
   intro o o' o'' q hq
   rw [Store.set_other _ _ _ _ (by omega), Store.set_other _ _ _ _ (by omega), Store.set_other _ _ _ _ (by omega)]
   exact hd q hq
  exact ⟨_, _, rfl, ⟨es2, _, hm2', hI.join hia hkb h1, rfl⟩, yg (hdd _ _ _)⟩
open Go Go.Shelf Go.RowKit Go.Lib Go.Sort
def Se : Store := fun _ => .dead
def Ce : Ctx := ⟨fun _ => none, 0, 0⟩
theorem ZeB (w : World) : Sim Ce Se w :=
 ⟨fun _ h => absurd rfl h, (fun _ _ h => by cases h), fun _ _ _ _ _ h => absurd rfl h, (fun _ _ _ _ h => by cases h), (fun _ _ _ h => by cases h)⟩
theorem JB (b : Nat) : ¬ Ce.M Se b := by rintro ⟨o, k, h, _⟩; exact h rfl
inductive Fz : PV → Prop where
 | junk : Fz .junk
 | sc (v : Value) : Fz (.sc v)
 | agg {cs : List PV} (h : ∀ p ∈ cs, Fz p) : Fz (.agg cs)
 | lst {n : Nat} {cs : List PV} (h : ∀ p ∈ cs, Fz p) : Fz (.lst n cs)
 | ip {cs : List PV} (h : ∀ p ∈ cs, Fz p) : Fz (.ip cs)
theorem ZeC {C : Ctx} {S : Store} {w : World} {p : PV} {v : Value} (h : Rel C S w p v) : Fz p → Rel Ce Se w p v := by
 induction h with
 | junk v => intro _; exact .junk v
 | sc v => intro _; exact .sc v
 | agg hl h1 _ ih => intro hz; cases hz with | agg hz => exact .agg hl h1 fun i c v hc hv => ih i c v hc hv (hz c (List.mem_of_getElem? hc))
 | tup hl _ ih => intro hz; cases hz
 | lst0 => intro _; exact .lst0
 | lst1 hn hm hb hM hs h1 _ ih => intro hz; cases hz with | lst hz => exact .lst1 hn hm hb (JB _) hs h1 fun i c v hc hv => ih i c v hc hv (hz c (List.mem_of_getElem? hc))
 | ip hb hM hs h1 _ ih => intro hz; cases hz with | ip hz => exact .ip hb (JB _) hs h1 fun i c v hc hv => ih i c v hc hv (hz c (List.mem_of_getElem? hc))
 | ptr _ _ _ => intro hz; cases hz
 | sl _ _ _ => intro hz; cases hz
 | fn _ _ _ _ _ _ => intro hz; cases hz
 | ifc _ _ => intro hz; cases hz
 | mp _ _ _ => intro hz; cases hz
theorem ZeD {W w' : World} {C' : Ctx} {S' : Store} (h : Step Ce Se W C' S' w') : ∃ q os', w' = grow (W.drewN q) os' := by
 obtain ⟨p, hp⟩ := regrown_of_below (w := W) (w' := w') ⟨h.os, h.tape.1, h.output, h.size, fun b hb => (h.blocks b hb (JB b)).1⟩
 have hd := h.tape.2
 rw [hp] at hd
 refine ⟨p.d - W.drawn, p.os, ?_⟩
 rw [hp]
 have hd' : W.drawn ≤ p.d := hd
 have e : W.drawn + (p.d - W.drawn) = p.d := by omega
 unfold grow redrawn World.drewN
 rw [e]
section
variable {P : Program} {α : Type} [Inhabited α] {val : α → Int}
theorem ZeE {C : Ctx} {S : Store} {w : World} {x : Int} {v : Value} (h : Rel C S w (I x) v) : v = .int .i64 x := by cases h; rfl
abbrev jq (val : α → Int) (x : α) : Value := .int .i64 (val x)
theorem ZeF {g : Nat} {caps : List PV} {cf : α → α → Int} (hg : ∀ x y : α, Pure P g (I (val x) :: I (val y) :: caps) (I (cf x y))) (cb : Array Value) (hl : caps.length = cb.size) {w : World} {blk size : Nat}
  (hr : ∀ (m : Nat) (os : Array Obj) (dk : Array α), dk.size = size → ∀ (i : Nat) (c : PV) (v : Value), caps[i]? = some c → cb[i]? = some v → Rel Ce Se (sortWorld (jq val) w blk 0 m dk os) c v) : CmpLays1 P g cb (jq val) cf blk 0 size w := by
 intro m os dk hs x y
 refine ((hg x y Se).2 Ce (sortWorld (jq val) w blk 0 m dk os) (#[jq val x, jq val y] ++ cb) (ZeB _) (by simp; omega) ?_).mono ?_
 ·intro i c v hc hv
  match i with
  | 0 => rw [Array.getElem?_append_left (by simp)] at hv; cases hc; cases hv; exact .sc _
  | 1 => rw [Array.getElem?_append_left (by simp)] at hv; cases hc; cases hv; exact .sc _
  | i + 2 =>
   simp only [List.getElem?_cons_succ] at hc
   rw [Array.getElem?_append_right (by simp)] at hv
   exact hr m os dk hs i c v hc (by simpa using hv)
 ·rintro e w' ⟨p, v, S', C', rfl, ⟨rfl, rfl⟩, hrel, _, hst⟩
  cases hrel
  exact ⟨rfl, ZeD hst⟩
theorem Vd {C : Ctx} {S : Store} {w : World} (hS : Sim C S w) {id ver e b k : Nat} {cs0 : List PV} {c : Array Value} (hid : S id = .cells ver e cs0) (g1 : C.loc id = some (b, k)) (g2 : w.heap[b]? = some (.cells c e (0, 0))) (g3 : c.size = k) (dk : Array α) (hdk : dk.size ≤ k) (q : Nat) (os : Array Obj) :
  Sim (C.at id ver (C.loc id)) (S.set id (.cells ver e (dk.toList.map fun x => I (val x)))) (sortWorld (jq val) w b 0 q dk os) ∧
  Step C S w (C.at id ver (C.loc id)) (S.set id (.cells ver e (dk.toList.map fun x => I (val x)))) (sortWorld (jq val) w b 0 q dk os) := by
 have hb : b < w.heap.size := yx g2
 have hh : (sortWorld (jq val) w b 0 q dk os).heap[b]? = some (.cells (putCells (jq val) 0 dk c) e (0, 0)) := by
  unfold sortWorld
  rw [heap_grow_old _ _ (by simpa using hb)]
  simp [putRow, mapBlock, Sort.ahead, Array.getElem?_modify, g2, onCells]
 have hgr : w.grownBy (sortWorld (jq val) w b 0 q dk os) (some b) := by
  refine ⟨rfl, rfl, rfl, by simp [sortWorld], fun j hj hne => ?_⟩
  unfold sortWorld
  rw [heap_grow_old _ _ (by simpa using hj)]
  have : b ≠ j := fun e => hne (by rw [e])
  simp [putRow, mapBlock, Sort.ahead, Array.getElem?_modify, this]
 have hcell : ∀ i, i < dk.size → ∀ v, (putCells (jq val) 0 dk c)[i]? = some v → v = jq val dk[i]! := by
  intro i hi v hv
  have hic : i < c.size := by omega
  simp [putCells, hi, hic] at hv
  rw [← hv, getElem!_pos dk i hi]
 refine hS.turn (l := C.loc id) (ver' := ver) (cs' := dk.toList.map fun x => I (val x)) hid (Nat.le_refl _) (fun _ => rfl) ⟨by rw [g1]; exact hgr, Nat.le_add_right _ _⟩
  (.inr ⟨b, k, _, g1, .inr (by rw [g1]; rfl), hh, by simp [putCells, g3], by simpa using hdk, fun i v hi hv => ?_, fun i p v hp hv => ?_⟩)
 ·rw [hcell i (by simpa using hi) v hv]; rfl
 ·have hi : i < dk.size := by have := (List.getElem?_eq_some_iff.1 hp).1; simpa using this
  rw [hcell i hi v hv]
  rw [List.getElem?_map, Array.getElem?_toList, Array.getElem?_eq_getElem hi] at hp
  simp only [Option.map_some, Option.some.injEq] at hp
  rw [← hp, getElem!_pos dk i hi]
  exact .sc _
theorem ZeG {ρ : Ren} (L : SlLaysF.n6 P ρ) (hE : yC P (ρ.f 6)) {S : Store} {id ver : Nat} {f : PV} : Spec P (ρ.f 6) [.sl id ver 1 0 0, f] S (fun p S' => S' = S) := by
 refine ⟨hE, ?_⟩
 intro C w vs hS hl hr
 obtain ⟨v0, v1, rfl⟩ : ∃ v0 v1, vs = #[v0, v1] := by
  match vs, hl with
  | ⟨[a, b]⟩, _ => exact ⟨a, b, rfl⟩
 have hv0 := hr 0 _ v0 rfl rfl
 cases hv0 with
 | sl h1 h2 h3 =>
  obtain ⟨a, cap, rfl, q1, q2, q3, q4⟩ := h1
  refine (AnyF.slices_SortFunc_none { L with } a cap _ w).mono ?_
  rintro e w' ⟨rfl, rfl⟩
  exact ⟨.junk, _, S, C, rfl, rfl, .junk _, hS, .refl _ _ _⟩
theorem ZeH {ρ : Ren} (L : SlLaysF.n6 P ρ) (hE : yC P (ρ.f 6)) {S : Store} {id ver e : Nat} (zs : List α) (hid : S id = .cells ver e (zs.map fun x => I (val x))) (hn : zs.length ≤ 1048576)
  {g : Nat} (hG : yC P g) {caps : List PV} (hz : ∀ p ∈ caps, Fz p) (cf : α → α → Int) (hO : SWO (ltOf cf)) (hT : ∀ x y, (ltOf cf) x y = false → (ltOf cf) y x = false → x = y)
  (hg : ∀ x y : α, Pure P g (I (val x) :: I (val y) :: caps) (I (cf x y))) :
  Spec P (ρ.f 6) [.sl id ver 1 0 zs.length, .fn (.func g) [] caps] S (fun p S' => S' = S.set id (.cells ver e ((zs.mergeSort fun x y => !(ltOf cf) y x).map fun x => I (val x)))) := by
 refine ⟨hE, ?_⟩
 intro C w vs hS hl hr
 obtain ⟨v0, v1, rfl⟩ : ∃ v0 v1, vs = #[v0, v1] := by
  match vs, hl with
  | ⟨[a, b]⟩, _ => exact ⟨a, b, rfl⟩
 have hv0 := hr 0 _ v0 rfl rfl
 have hv1 := hr 1 _ v1 rfl rfl
 cases hv1 with
 | @fn _ _ _ fv cv hf hc hh' hcap =>
 obtain rfl : fv = #[] := by
  have : fv.size = 0 := by simpa using hf.symm
  exact Array.eq_empty_of_size_eq_zero this
 cases hv0 with
 | sl h1 h2 h3 =>
  obtain ⟨a, cap, rfl, q1, q2, q3, q4⟩ := h1
  by_cases h0 : zs = []
  ·subst h0
   refine (AnyF.slices_SortFunc_none { L with } a cap _ w).mono ?_
   rintro e w' ⟨rfl, rfl⟩
   refine ⟨.junk, _, S, C, rfl, ?_, .junk _, hS, .refl _ _ _⟩
   funext i
   simp only [Store.set, List.mergeSort_nil]
   split
   ·rename_i e; rw [e, hid]
   ·rfl
  ·have hpos : 0 < zs.length := List.length_pos_iff.2 h0
   rcases hS.cells id ver _ _ hid with ⟨hn', hnil⟩ | ⟨b, k, c, g1, g2, g3, g4, g5, g6⟩
   ·simp at hnil; exact absurd hnil h0
   ·have ha : a = some ⟨b, 0, none⟩ := by
     rcases (h3 ver (by rw [hid]; rfl)).2 rfl with ⟨z1, _⟩ | ⟨b', k', a', cap', z1, z2, z3, z4⟩
     ·rw [g1] at z1; cases z1
     ·rw [g1] at z1; cases z1; cases z2; exact (z3 rfl).1
    subst ha
    rw [List.length_map] at g4 g5
    have hcells : ∀ i (hi : i < zs.length), c[i]? = some (jq val zs[i]) := by
     intro i hi
     have hi' : i < c.size := by omega
     have e1 : (zs.map fun x => I (val x))[i]? = some (I (val zs[i])) := by simp [hi]
     have e2 : c[i]? = some c[i] := by simp
     rw [e2, ZeE (g6 i _ _ e1 e2)]
    have hH : Holds (jq val) w b 0 zs.toArray := by
     intro j hj
     have hj' : j < zs.length := by simpa using hj
     refine ⟨?_, by simp [World.frozen?, g2]⟩
     simp only [World.cell?, g2, Nat.zero_add, Option.isSome_none, Bool.false_eq_true, if_false]
     rw [hcells j hj', getElem!_pos zs.toArray j hj]
     simp
    have hlays : CmpLays1 P g cv (jq val) cf b 0 zs.toArray.size w := by
     refine ZeF hg cv (by simpa using hc) fun m os dk hs i p v hp hv => ?_
     obtain ⟨_, st⟩ := Vd (val := val) hS hid g1 g2 g3 dk (by rw [hs]; simpa using g4) m os
     exact ZeC ((hcap i p v hp hv).mono st) (hz p (List.mem_of_getElem? hp))
    have hk := Any.slices_SortFunc_total L (jq val) (fun _ => rfl) cf hO g cv b 0 cap zs.toArray w hG hlays hH (yx g2) (by simp; omega) hT
    simp only [List.size_toArray] at hk
    refine hk.mono ?_
    rintro e w' ⟨rfl, m, os, rfl⟩
    obtain ⟨t1, t2⟩ := Vd (val := val) hS hid g1 g2 g3 (zs.mergeSort fun x y => !(ltOf cf) y x).toArray (by simpa using g4) m os
    exact ⟨.junk, _, _, _, rfl, rfl, .junk _, t1, t2⟩
end
open Go
set_option maxRecDepth 20000 in
theorem Ve (x : Int) : Pure Tryz.prog 230 [I x] (B false) := by
 refine pwe Tryz.func230 Tryz.ntmps230 Tryz.results230 fun S nx hd => ?_
 (repeat apply za); refine pwn ?_; intros
 (repeat apply za); refine pwn ?_; intros
 repeat apply za
 exact zd (zg hd (by simp; rfl) rfl)
set_option maxRecDepth 20000 in
theorem Vf (x y : Int) : Pure Tryz.prog 282 [I x, I y] (I (xe x y)) := by
 refine pwe Tryz.func282 Tryz.ntmps282 Tryz.results282 fun S nx hd => ?_
 (repeat apply za); refine pwn ?_; intros
 repeat apply za
 refine pwn ?_
 refine pwc (Ve x) ?_
 intros
 repeat apply za
 refine pwn ?_
 refine pwc (Ve y) ?_
 intros
 (repeat apply za); refine pwn ?_; intros
 repeat apply za
 refine zi (by simp) ?_
 refine zb ?_
 (repeat apply za); refine pwn ?_; intros
 repeat apply za
 refine zi (by simp) ?_
 refine zb ?_
 by_cases h1 : x < y
 ·repeat apply za
  refine pwN [] h1 ?_
  intros
  repeat apply za
  refine zj (by simp [h1]) ?_
  (repeat apply za); refine pwn ?_; intros
  repeat apply za
  exact zd (zg hd (by simp; rfl) (by simp [xe, h1, zl]))
 repeat apply za
 refine pwN [] h1 ?_
 intros
 repeat apply za
 refine zi (by simp [h1]) ?_
 refine zb ?_
 by_cases h2 : y < x
 ·repeat apply za
  refine pwN [] h2 ?_
  intros
  repeat apply za
  refine zj (by simp [h2]) ?_
  (repeat apply za); refine pwn ?_; intros
  repeat apply za
  exact zd (zg hd (by simp; rfl) (by simp [xe, h1, h2, zl]))
 repeat apply za
 refine pwN [] h2 ?_
 intros
 repeat apply za
 refine zi (by simp [h2]) ?_
 refine zb ?_
 (repeat apply za); refine pwn ?_; intros
 repeat apply za
 exact zd (zg hd (by simp; rfl) (by simp [xe, h1, h2, zl]))
set_option maxRecDepth 20000 in
theorem ZeI (x y : Int) : Pure Tryz.prog 281 [.lst 2 [I x, I y]] (I (if x = 0 then y else x)) := by
 refine pwe Tryz.func281 Tryz.ntmps281 Tryz.results281 fun S nx hd => ?_
 (repeat apply za); refine pwn ?_; intros
 (repeat apply za); refine pwn ?_; intros
 (repeat apply za); refine pwn ?_; intros
 repeat apply za
 refine ze (zq (fun s : Nat => s ≤ 2 ∧ (0 < s → x = 0) ∧ (1 < s → y = 0)) (fun k => [(3, I 0), (6, .lst 2 [I x, I y]), (7, I 2), (8, I k)]) (fun _ => []) (fun s => 2 - s) 0 [] (by simp) (by simp) (by simp) ?_)
 rintro k ⟨hk, hk1, hk2⟩
 match k, hk, hk1, hk2 with
 | 0, _, _, _ =>
  (repeat apply za); refine pwn ?_; intros
  repeat apply za
  refine zj (by simp) ?_
  refine zb (za (ze ?_))
  (repeat apply za); refine pwn ?_; intros
  by_cases hx : x = 0
  ·repeat apply za
   refine pwN [] hx ?_
   intros
   repeat apply za
   refine zi (by simp [hx]) ?_
   refine zb ?_
   (repeat apply za); refine pwn ?_; intros
   exact zh 1 [] ⟨by omega, fun _ => hx, by omega⟩ (by omega) (by simp [hx]; rfl) rfl (by simp)
  ·repeat apply za
   refine pwN [] hx ?_
   intros
   repeat apply za
   refine zj (by simp [hx]) ?_
   (repeat apply za); refine pwn ?_; intros
   repeat apply za
   exact zd (zg hd (by simp; rfl) (by simp [hx, zl]))
 | 1, _, hk1, _ =>
  have hx := hk1 (by omega)
  (repeat apply za); refine pwn ?_; intros
  repeat apply za
  refine zj (by simp) ?_
  refine zb (za (ze ?_))
  (repeat apply za); refine pwn ?_; intros
  by_cases hy : y = 0
  ·repeat apply za
   refine pwN [] hy ?_
   intros
   repeat apply za
   refine zi (by simp [hy]) ?_
   refine zb ?_
   (repeat apply za); refine pwn ?_; intros
   exact zh 2 [] ⟨by omega, fun _ => hx, fun _ => hy⟩ (by omega) (by simp [hy]; rfl) rfl (by simp)
  ·repeat apply za
   refine pwN [] hy ?_
   intros
   repeat apply za
   refine zj (by simp [hy]) ?_
   (repeat apply za); refine pwn ?_; intros
   repeat apply za
   exact zd (zg hd (by simp; rfl) (by simp [hx, zl]))
 | 2, _, hk1, hk2 =>
  (repeat apply za); refine pwn ?_; intros
  repeat apply za
  refine zi (by simp) ?_
  refine zo ?_
  (repeat apply za); refine pwn ?_; intros
  repeat apply za
  exact zd (zg hd (by simp; rfl) (by simp [hk1 (by omega), hk2 (by omega), zl]))
set_option maxRecDepth 20000 in
theorem ZeJ (l : List Int) (i j : Fin l.length) (hn : l.length ≤ 1048576) : Pure Tryz.prog 280 [I i.val, I j.val, .ip [L l]] (I (cfW l i j)) := by
 obtain ⟨a, tl, a1, a2, a3, e0⟩ := el1 rfl l i.val i.isLt
 obtain ⟨b, tl2, b1, b2, b3, e1⟩ := el1 rfl l j.val j.isLt
 have hi := i.isLt
 have hj := j.isLt
 have ha : l.getD i.val 0 = a := by rw [List.getD_eq_getElem?_getD, a1]; rfl
 have hb : l.getD j.val 0 = b := by rw [List.getD_eq_getElem?_getD, b1]; rfl
 have hor := ZeI (xe a b) (xe i.val j.val)
 have hres : cfW l i j = if xe a b = 0 then xe (i.val : Int) j.val else xe a b := by unfold cfW; rw [ha, hb]
 rw [hres]
 refine pwe Tryz.func280 Tryz.ntmps280 Tryz.results280 fun S nx hd => ?_
 (repeat apply za); refine pwn ?_; intros
 repeat apply za
 refine pwY none (Row.pures [0, 1, 2, 3, 4, 5, 6, 7, 8, 9, 10, 11, 12, 13, 14] .done) mixed (jn4 hi hj e0 e1) ?_
 refine pwP (Vf a b) (jn4 hi hj e0 e1) ?_
 refine pwP (Vf i.val j.val) trivial ?_
 refine pwP (hor) trivial ?_
 intros
 repeat apply za
 exact zd (zg hd (by simp; rfl) rfl)
theorem JC (l : List Int) : l.flatMap Enc.enc = l.map I := by induction l <;> simp_all
theorem ZeK (l : List Int) : ∀ p ∈ [PV.ip [L l]], Fz p := by
 intro p hp
 simp only [List.mem_singleton] at hp
 subst hp
 refine .ip fun q hq => ?_
 simp only [List.mem_singleton] at hq
 subst hq
 refine .lst fun r hr => ?_
 rw [JC] at hr
 obtain ⟨x, _, rfl⟩ := List.mem_map.1 hr
 exact .sc _
def jE (n k : Nat) : List Int := (List.range n).map fun i => if i < k then (i : Int) else 0
theorem ZeL (n k : Nat) : (jE n k).length = n := by simp [jE]
theorem ZeM (n : Nat) : jE n 0 = List.replicate n 0 := by
 apply List.ext_getElem
 ·simp [jE]
 ·intro i h1 h2; simp [jE]
theorem ZeN (n k : Nat) (h : k < n) : (jE n k).set k (k : Int) = jE n (k + 1) := by
 apply List.ext_getElem
 ·simp [jE]
 ·intro i h1 h2
  rw [List.getElem_set]
  simp only [jE, List.getElem_map, List.getElem_range]
  by_cases e : k = i
  ·subst e; rw [if_pos rfl, if_pos (by omega)]
  ·rw [if_neg e]
   by_cases h3 : i < k
   ·rw [if_pos h3, if_pos (by omega)]
   ·rw [if_neg h3, if_neg (by omega)]
theorem ZeO (n : Nat) : jE n n = (List.finRange n).map fun x => (x.val : Int) := by
 apply List.ext_getElem
 ·simp [jE]
 ·intro i h1 h2
  have : i < n := by simpa [jE] using h1
  simp [jE, this]
theorem Vg {α : Type} (l : List α) (f : α → Int) : (l.map f).flatMap Enc.enc = l.map fun x => I (f x) := by induction l <;> simp_all
theorem ZeP (n : Nat) : qf n (.int .i64 0) = (List.replicate n (0 : Int)).flatMap Enc.enc := by
 induction n with
 | zero => simp
 | succ n ih => rw [wZ, ih, List.replicate_succ]; simp [yF, Value.cells]
theorem ZeQ (l : List Int) (k : Nat) (v : Int) (h : k < l.length) : zH (l.flatMap Enc.enc) k [I v] = (l.set k v).flatMap Enc.enc := by
 rw [JC, JC, zH, List.map_set, List.set_eq_take_append_cons_drop, if_pos (by simpa using h)]
 simp
set_option maxRecDepth 20000 in
theorem ZeR (l : List Int) (hn : l.length ≤ 1048576) : Pure Tryz.prog 273 [L l] (L (jT l)) := by
 have hE : yC Tryz.prog 279 := yG Tryz.func279 (by rfl) rfl
 have hG : yC Tryz.prog 280 := yG Tryz.func280 (by rfl) rfl
 refine pwe Tryz.func273 Tryz.ntmps273 Tryz.results273 fun S nx hd => ?_
 repeat apply za
 refine pwn ?_
 intro v0
 repeat apply za
 refine pwn ?_
 refine ⟨by omega, fun v1 => ?_⟩
 intros
 (repeat apply za); refine pwn ?_; intros
 repeat apply za
 refine ze (zq (fun s : Nat => s ≤ l.length) (fun k => [(1, .ptr nx v0 0), (3, .sl (nx + 1) v1 1 0 l.length), (9, I l.length), (10, I k)]) (fun k => [.cells v0 54 [L l], .cells v1 3 ((jE l.length k).flatMap Enc.enc)]) (fun s => l.length - s) 0 [] (by simp) (by simp) (by simp [ZeM, ZeP]) ?_)
 rintro k hk
 (repeat apply za); refine pwn ?_; intros
 repeat apply za
 refine zk rfl (fun hc => ?_) (fun hc => ?_)
 ·simp at hc
  have hl1 := ZeL l.length k
  have hsp := ZeQ (jE l.length k) k k (by omega)
  rw [ZeN _ _ hc] at hsp
  refine zb (za (ze ?_))
  (repeat apply za); refine pwn ?_; intros
  repeat apply za
  refine pwN [] (jn3 hc hl1 hsp) ?_
  refine ⟨by omega, ?_⟩
  intros
  (repeat apply za); refine pwn ?_; intros
  exact zh (k + 1) [] hc (by omega) (by simp [wrN k (by omega)]) rfl (by simp)
 ·simp at hc
  obtain rfl : k = l.length := by omega
  refine zo ?_
  rw [ZeO, Vg]
  refine xx 0 rfl ?_
  repeat apply za
  refine zM [] (by rfl) (by rfl) fun K Gc Gh hK hGc hGh X hX0 hX => ?_
  simp -implicitDefEqProofs [hX0, hX]
  try clear hX0 hX X
  by_cases h0 : l.length = 0
  ·obtain rfl : l = [] := List.eq_nil_of_length_eq_zero h0
   refine hGc _ _ _ _ _ _ _ fun hsuf => ((ZeG Tryz.laysSlF6_f279 hE).mono ?_).v
   rintro _ _ rfl
   refine ⟨_, _, rfl, ?_⟩
   clear hGc hGh
   clear Gc Gh
   refine zK hsuf (D := []) (by rfl) fun Gc Gh hGc hGh X hX0 hX => ?_
   simp -implicitDefEqProofs [hX0, hX]
   clear hX0 hX X
   intros
   refine hK _ _ _ ?_
   clear hK hGc hGh
   clear K Gc Gh
   refine zC 1 rfl ?_
   (repeat apply za); refine pwn ?_; intros
   have hs0 : jT [] = [] := List.eq_nil_of_length_eq_zero (Jw [])
   repeat apply za
   exact zd (zg hd (by simp; rfl) (by rw [hs0]; rfl))
  ·haveI : Inhabited (Fin l.length) := ⟨⟨0, by omega⟩⟩
   have hs := fun S id ver hid => ZeH (S := S) (id := id) (ver := ver) (e := 3) (val := fun i : Fin l.length => (i.val : Int)) Tryz.laysSlF6_f279 hE (List.finRange l.length) hid (by simp; omega) hG (ZeK l) (cfW l) (YP l) (W6 l) (fun x y => ZeJ l x y hn)
   rw [List.length_finRange] at hs
   have hfl := Vg (vT l) (fun i => (i.val : Int))
   have hsl := Jw l
   refine hGc _ _ _ _ _ _ _ fun hsuf => ((hs _ (nx + 1) v1 (by rw [yM]; rfl)).mono ?_).v
   rintro _ _ rfl
   refine ⟨_, _, qg _ (by omega) (by simp), ?_⟩
   rw [show (((List.finRange l.length).mergeSort fun x y => !(ltOf (cfW l)) y x).map fun x => I (x.val : Int)) = (jT l).flatMap Enc.enc from hfl.symm]
   clear hGc hGh
   clear Gc Gh
   refine zK hsuf (D := []) (by rfl) fun Gc Gh hGc hGh X hX0 hX => ?_
   simp -implicitDefEqProofs [hX0, hX, (show nx + 1 - nx = 1 from by omega)]
   clear hX0 hX X
   intros
   refine hK _ _ _ ?_
   clear hK hGc hGh
   clear K Gc Gh
   refine zC 1 rfl ?_
   repeat apply za
   refine pwN [] hsl ?_
   intros
   repeat apply za
   exact zd (zg hd (by simp; rfl) (by simp [zl, hsl]))
open Go Hp
theorem JD (x : Inst) (c : List Int) (a b : Int) : yl x (c ++ [b]) a = yl x c a ++ (if b ≠ a then [⟨a, b, yB x a b⟩] else []) := by
 unfold yl
 by_cases h : b = a <;> simp [h]
theorem ZeS (x : Inst) (c : List Int) (a : Int) : (yl x c a).length ≤ c.length := by
 unfold yl
 rw [List.length_map]; exact List.length_filter_le _ _
theorem ZeT (l : List Pr) (p : Pr) : yt (l ++ [p]) = yt l ++ [-p.s] := by simp [yt]
theorem ZeU (l : List Pr) : (yt l).length = l.length := by simp [yt]
set_option maxRecDepth 20000 in
theorem ZeV (x : Inst) (c : List Int) (a : Int) (hx : ye x) (hc : c.length ≤ 1048576) (hs : ∀ b ∈ c, small b) (ha : small a) : Pure Tryz.prog 262 [.agg (zm x), L c, I a] (L (qZ x c a)) := by
 refine pwe Tryz.func262 Tryz.ntmps262 Tryz.results262 fun S nx hd => ?_
 repeat apply za
 refine pwn ?_
 intro v0
 (repeat apply za); refine pwn ?_; intros
 refine za (qm 7 185 3 rfl fun v1 => ?_)
 (repeat apply za); refine pwn ?_; intros
 refine za (qm 8 3 1 rfl fun v2 => ?_)
 (repeat apply za); refine pwn ?_; intros
 repeat apply za
 refine ze (zq (fun s : Nat × List Pr × Nat × Nat => s.1 ≤ c.length ∧ s.2.1 = yl x (c.take s.1) a) (fun (k, ps, v1, v2) => [(1, L c), (2, I a), (3, .ptr nx v0 0), (7, .sl (nx + 1) v1 3 0 ps.length), (8, .sl (nx + 2) v2 1 0 ps.length), (15, L c), (16, I c.length), (17, I k)]) (fun (k, ps, v1, v2) => [.cells v0 25 (zm x), .cells v1 185 (ps.flatMap Enc.enc), .cells v2 3 ((yt ps).flatMap Enc.enc)]) (fun s => c.length - s.1) (0, [], v1, v2) [] (by simp [yl]) (by simp) (by simp [yt]) ?_)
 rintro ⟨k, ps, v1, v2⟩ ⟨hk, ho⟩
 simp only at hk ho ⊢
 have hpl : ps.length ≤ k := by rw [ho]; refine Nat.le_trans (ZeS _ _ _) ?_; simp; omega
 have hnl := ZeU ps
 (repeat apply za); refine pwn ?_; intros
 repeat apply za
 refine zk rfl (fun hq => ?_) (fun hq => ?_)
 ·simp at hq
  obtain ⟨b, tl, a1, a2, a3, e0⟩ := el1 rfl c k hq
  have hb := hs b (List.mem_of_getElem? a1)
  have hsv := Jz hx a b
  have w5 : IntKind.i64.wrap (-yB x a b) = -yB x a b := wr _ (by omega) (by omega)
  have hsn := JD x (c.take k) a b
  rw [← a3, ← ho] at hsn
  refine zb (za (ze ?_))
  repeat apply za
  refine pwN [] (jn2 e0 hq) ?_
  intros
  (repeat apply za); refine pwn ?_; intros
  repeat apply za
  refine zk rfl (fun hne => ?_) (fun hne => ?_)
  ·simp at hne
   rw [if_pos hne] at hsn
   repeat apply za
   refine pwn ?_
   refine pwc (Zeq x a b hx ha hb) ?_
   intro v3
   intros
   repeat apply za
   refine pwn ?_
   refine ⟨by omega, ?_⟩
   intros
   have htk : List.take ps.length ((yt ps).flatMap Enc.enc) = (yt ps).flatMap Enc.enc := by rw [← hnl]; exact Zcn _
   have hnf : ((yt ps).flatMap Enc.enc).length = ps.length := by rw [qn, hnl]
   repeat apply za
   refine pwN [] (jn3 w5 htk hnf) ?_
   refine ⟨by omega, ?_⟩
   intros
   (repeat apply za); refine pwn ?_; intros
   exact zh (k + 1, ps ++ [⟨a, b, yB x a b⟩], v1 + 1, v2 + 1) [_] ⟨hq, hsn.symm⟩ (by simp; omega) (by simp [wrN k (by omega)]) rfl (by simp [ZeT]; rfl)
  ·simp at hne
   rw [if_neg (by simp [hne]), List.append_nil] at hsn
   refine zb ?_
   (repeat apply za); refine pwn ?_; intros
   exact zh (k + 1, ps, v1, v2) [] ⟨hq, hsn.symm⟩ (by simp; omega) (by simp [wrN k (by omega)]) rfl (by simp)
 ·simp at hq
  obtain rfl : k = c.length := by omega
  rw [List.take_length] at ho
  refine zo ?_
  refine zC 1 rfl ?_
  refine zC 2 rfl ?_
  (repeat apply za); refine pwn ?_; intros
  refine za (qm 12 185 3 rfl fun v3 => ?_)
  have hrw : qZ x c a = (jT (yt ps)).map (jU ps) := by rw [ho]; rfl
  rw [hrw]
  have hsl := Jw (yt ps)
  have hmem : ∀ z ∈ jT (yt ps), 0 ≤ z ∧ z < ps.length := fun z h => by have := Zd5 h; omega
  have hcall := ZeR (yt ps) (by omega)
  rw [show L (yt ps) = PV.lst ps.length ((yt ps).flatMap Enc.enc) from by rw [← hnl]] at hcall
  generalize yt ps = ns at *
  repeat apply za
  refine pwN [] hnl ?_
  refine pwc hcall ?_
  intros
  generalize jT ns = is at *
  repeat apply za
  refine ze (zq (fun s : Nat × List Pr × Nat => s.1 ≤ is.length ∧ s.2.1 = (is.take s.1).map (jU ps)) (fun (k, os, v) => [(7, L ps), (12, .sl (nx + 3) v 3 0 os.length), (43, L is), (44, I is.length), (45, I k)]) (fun (k, os, v) => [.cells v0 25 (zm x), .dead, .dead, .cells v 185 (os.flatMap Enc.enc)]) (fun s => is.length - s.1) (0, [], v3) [] (by simp) (by simp [hnl]) (by simp) ?_)
  rintro ⟨k, os, v⟩ ⟨hk, ho2⟩
  simp only at hk ho2 ⊢
  (repeat apply za); refine pwn ?_; intros
  repeat apply za
  refine zk rfl (fun hq => ?_) (fun hq => ?_)
  ·simp at hq
   obtain ⟨i, tl, a1, a2, a3, e0⟩ := el1 rfl is k hq
   obtain ⟨q1, q2⟩ := hmem i (List.mem_of_getElem? a1)
   obtain ⟨j, rfl⟩ : ∃ j : Nat, i = j := ⟨i.toNat, by omega⟩
   have hj : j < ps.length := by omega
   obtain ⟨p, tp, b1, b2, b3, e1, e2⟩ := el 3 rfl ps j hj
   have hg : jU ps (j : Int) = p := by simp [jU, List.getD_eq_getElem?_getD, b1]
   have hgs : (is.take (k + 1)).map (jU ps) = os ++ [p] := by rw [a3, ho2]; simp [hg]
   have hgl : os.length = k := by rw [ho2]; simp; omega
   refine zb (za (ze ?_))
   repeat apply za
   refine pwN [] (jn2 e0 hq) ?_
   intros
   repeat apply za
   refine pwN [] (jn3 e1 e2 hj) ?_
   refine ⟨by omega, ?_⟩
   intros
   (repeat apply za); refine pwn ?_; intros
   exact zh (k + 1, os ++ [p], v + 1) [] ⟨hq, hgs.symm⟩ (by simp; omega) (by simp [wrN k (by omega)]) rfl (by simp)
  ·simp at hq
   obtain rfl : k = is.length := by omega
   rw [List.take_length] at ho2
   refine zo ?_
   refine zC 3 rfl ?_
   (repeat apply za); refine pwn ?_; intros
   repeat apply za
   exact zd (zg hd (by simp; rfl) (by simp [zl, ho2]))
open Go Hp
@[simp] theorem ZkW (d1 d2 a b c : Ob) (l : List Ob) (o : Ob × Ob × Ob) : wg (d1 :: d2 :: a :: b :: c :: l) 2 o = d1 :: d2 :: o.1 :: o.2.1 :: o.2.2 :: l := rfl
theorem HX.srt {o : Ob × Ob × Ob} {a hv mv : Nat} {r : Its Int} (h : HX o a hv mv r) : jS r := by
 obtain ⟨_, _, _, h⟩ := h (fun i => if i = a then o.1 else if i = a + 1 then o.2.1 else o.2.2) (by simp) (by simp) (by simp)
 exact h
theorem ZeW {id : Int} {r : Its Int} (h : ∀ x ∈ r, x.1 ≠ id) : qp id r = false := by
 simp only [qp, List.any_eq_false]; intro x hx; simpa using h x hx
def prV (p : Pr) : List PV := [.agg [I p.a, I p.b, I p.s]]
def qr (x : Inst) (c : List Int) (k : Nat) : List (List Pr) := (c.take k).map (qZ x c)
theorem Vh (x : Inst) (c : List Int) : qr x c 0 = [] := by simp [qr]
theorem ZeX {x : Inst} {c : List Int} {k : Nat} {a : Int} (h : c.take (k + 1) = c.take k ++ [a]) : qr x c (k + 1) = qr x c k ++ [qZ x c a] := by simp [qr, h]
theorem ZeY (x : Inst) (c : List Int) : qr x c c.length = c.map (qZ x c) := by simp [qr]
theorem Vi (x : Inst) (c : List Int) (k : Nat) (h : k ≤ c.length) : (qr x c k).length = k := by simp [qr]; omega
def xg (rows : List (List Pr)) (n : Nat) : List PV := rows.flatMap Enc.enc ++ List.replicate (n - rows.length) (.sc (.slice none 0 0))
theorem Vj (rows : List (List Pr)) (n : Nat) (h : rows.length ≤ n) : (xg rows n).length = n := by simp [xg]; omega
theorem ZeZ (n : Nat) : xg [] n = qf n (.slice none 0 0) := by
 unfold xg
 simp only [List.flatMap_nil, List.nil_append, List.length_nil, Nat.sub_zero]
 induction n with
 | zero => simp
 | succ n ih => rw [wZ, List.replicate_succ, ih]; simp [yF, Value.cells]
theorem Ze0 (rows : List (List Pr)) : xg rows rows.length = rows.flatMap Enc.enc := by simp [xg]
theorem Ze1 (rows : List (List Pr)) (n : Nat) (r : List Pr) (h : rows.length < n) : zH (xg rows n) rows.length [L r] = xg (rows ++ [r]) n := by
 unfold xg zH
 have h1 : (rows.flatMap Enc.enc).length = rows.length := yD rows
 obtain ⟨m, hm⟩ : ∃ m, n - rows.length = m + 1 := ⟨n - rows.length - 1, by omega⟩
 rw [hm, List.replicate_succ]
 rw [List.take_append_of_le_length (by omega), List.take_of_length_le (by omega)]
 rw [List.drop_append, List.drop_of_length_le (by simp)]
 simp [h1, show n - (rows.length + 1) = m by omega]
theorem Ze2 (rows : List (List Pr)) (n : Nat) (r : List Pr) : (xg (rows ++ [r]) n)[rows.length]? = some (L r) := by
 unfold xg
 rw [List.flatMap_append, List.append_assoc, List.getElem?_append_right (by rw [yD]; exact Nat.le_refl _), yD]
 simp
theorem Ze3 (rows : List (List Pr)) (k : Nat) (r : List Pr) (h : k < rows.length) : zH (rows.flatMap Enc.enc) k [L r] = (rows.set k r).flatMap Enc.enc := by
 have e : ∀ l : List (List Pr), l.flatMap Enc.enc = l.map fun r => L r := fun l => by induction l <;> simp_all
 rw [e, e, zH, List.map_set, List.set_eq_take_append_cons_drop, if_pos (by simpa using h)]
 simp
theorem YX : ∀ (rows : List (List Pr)) (i : Nat) (r : List Pr), zS i (rows ++ [r]) = zS i rows ++ zS (i + rows.length) [r]
 | [], i, r => by simp [zS]
 | [] :: rows, i, r => by
  simp only [List.cons_append, zS, List.length_cons]
  rw [YX rows (i + 1) r, show i + 1 + rows.length = i + (rows.length + 1) by omega]
 | (p :: l) :: rows, i, r => by
  simp only [List.cons_append, zS, List.length_cons]
  rw [YX rows (i + 1) r, show i + 1 + rows.length = i + (rows.length + 1) by omega]
theorem Ze4 (rows : List (List Pr)) : zS 0 (rows ++ [[]]) = zS 0 rows := by rw [YX]; simp [zS]
theorem Ze5 (rows : List (List Pr)) (p : Pr) (tl : List Pr) : (zS 0 (rows ++ [p :: tl])).Perm (((rows.length : Int), -p.s) :: zS 0 rows) := by
 rw [YX]
 simp only [zS, Nat.zero_add]
 exact List.perm_append_comm
theorem Vk {rows : List (List Pr)} {k : Nat} (h : rows.getD k [] = []) {r : Its Int} (hp : r.Perm (zS 0 rows)) : qp (k : Int) r = false := by
 refine ZeW fun x hx e => ?_
 obtain ⟨j, p, tl, hj, rfl⟩ := (uB rows 0 x).1 (hp.subset hx)
 simp only [Nat.zero_add] at e
 have : j = k := by omega
 subst this
 rw [List.getD_eq_getElem?_getD, hj] at h
 cases h
set_option maxRecDepth 20000 in
theorem Ze6 (x : Inst) (ss : List Stop) : Pure Tryz.prog 245 [.agg (zm x), L ss] (.fn (.func 260) [] [.ip [L ss], .ip (zm x)]) := by
 refine pwe Tryz.func245 Tryz.ntmps245 Tryz.results245 fun S nx hd => ?_
 repeat apply za
 refine pwn ?_
 intro v0 v1
 (repeat apply za); refine pwn ?_; intros
 refine xx 0 rfl ?_
 refine xx 1 rfl ?_
 repeat apply za
 exact zd (zg hd (by simp; rfl) rfl)
set_option maxRecDepth 20000 in
theorem Ze7 (x : Inst) (ss : List Stop) (hx : ye x) (hss : ss.length ≤ 1048576) (hs : ∀ s ∈ ss, small s.c) (hnd : (ss.map (·.c)).Nodup) : vK Tryz.prog 260 [.ip [L ss], .ip (zm x)] ((yd x (ss.map (·.c))).map prV) := by
 have hcust := fun S nx hd => Zr ss hss S nx hd
 obtain ⟨zs, hzs⟩ : ∃ zs, zs = ss.map (·.c) := ⟨_, rfl⟩
 have hzl : ss.length = zs.length := by rw [hzs]; simp
 rw [← hzs, hzl] at hcust
 rw [← hzs] at hnd ⊢
 have hzsm : ∀ b ∈ zs, small b := by
  intro b hb; rw [hzs] at hb; obtain ⟨s, h1, rfl⟩ := List.mem_map.1 hb; exact hs s h1
 have hz1 := vQ zs
 have hz2 := YL zs
 have hz3 := (Jk zs).2 hnd
 have hz4 := wL zs
 have hz5 : yd x zs = yd x (zQ zs) := Zef hnd hz3 hz2.symm
 have hz6 : (zQ zs).Pairwise (· < ·) := (List.Pairwise.and hz1 hz3).imp fun ⟨h1, h2⟩ => by omega
 have hzn : zs.length ≤ 1048576 := by omega
 have hcsm : ∀ b ∈ zQ zs, small b := fun b hb => hzsm b (hz2.subset hb)
 have hsort := fun (S : Store) (id ver : Nat) (hid : S id = .cells ver 3 (zs.flatMap Enc.enc)) => YH zs hid hzn
 rw [hz5]
 generalize zQ zs = c at *
 clear hzs hz1 hz5
 refine Yz Tryz.func260 (by rfl) rfl Tryz.ntmps260 (congrArg Array.toList Tryz.results260) (by simp) fun l V keep nx J hJd hY A0 hA0 => ?_
 repeat apply za
 refine zM [] (by rfl) (by rfl) fun K Gc Gh hK hGc hGh X hX0 hX => ?_
 simp -implicitDefEqProofs [hX0, hX]
 try clear hX0 hX X
 refine hGc _ _ _ _ _ _ _ fun hsuf => ((hcust _ _ qi).mono ?_).v
 rintro _ _ ⟨v1, rfl, rfl⟩
 refine ⟨_, _, Yx _, ?_⟩
 clear hGc hGh
 clear Gc Gh
 refine zK hsuf (D := []) (by rfl) fun Gc Gh hGc hGh X hX0 hX => ?_
 simp -implicitDefEqProofs [hX0, hX, Nat.add_assoc]
 clear hX0 hX X
 intros
 refine hK _ _ _ ?_
 clear hK hGc hGh
 clear K Gc Gh
 repeat apply za
 refine zM [] (by rfl) (by rfl) fun K Gc Gh hK hGc hGh X hX0 hX => ?_
 simp -implicitDefEqProofs [hX0, hX]
 try clear hX0 hX X
 refine hGc _ _ _ _ _ _ _ fun hsuf => ((hsort _ _ _ (by simp)).mono ?_).v
 rintro _ _ rfl
 refine ⟨_, _, qg _ (by simp) (by simp), ?_⟩
 clear hGc hGh
 clear Gc Gh
 refine zK hsuf (D := []) (by rfl) fun Gc Gh hGc hGh X hX0 hX => ?_
 simp -implicitDefEqProofs [hX0, hX]
 clear hX0 hX X
 intros
 refine hK _ _ _ ?_
 clear hK hGc hGh
 clear K Gc Gh
 rw [← hz4]
 refine zC 1 rfl ?_
 repeat apply za
 refine zM [] (by rfl) (by rfl) fun K Gc Gh hK hGc hGh X hX0 hX => ?_
 simp -implicitDefEqProofs [hX0, hX]
 try clear hX0 hX X
 refine hGc _ _ _ _ _ _ _ fun hsuf => (Zd1.mono ?_).v
 rintro p _ ⟨hv, mv, o1, rfl, m1, rfl⟩
 refine ⟨_, _, rfl, ?_⟩
 clear hGc hGh
 clear Gc Gh
 refine zK hsuf (D := []) (by rfl) fun Gc Gh hGc hGh X hX0 hX => ?_
 simp -implicitDefEqProofs [hX0, hX]
 clear hX0 hX X
 intros
 refine hK _ _ _ ?_
 clear hK hGc hGh
 clear K Gc Gh
 simp at m1
 repeat apply za
 refine pwn ?_
 refine ⟨by omega, fun v0 => ?_⟩
 intros
 (repeat apply za); refine pwn ?_; intros
 repeat apply za
 have hpw : ∀ (row : List Pr) (a : Int), row = qZ x c a → ∀ p ∈ row, IntKind.i64.wrap (-p.s) = -p.s := by
  intro row a e p hp
  rw [e] at hp
  have h1 := (Jy x c a).subset hp
  unfold yl at h1
  obtain ⟨b, _, rfl⟩ := List.mem_map.1 h1
  have := Jz hx a b
  show IntKind.i64.wrap (-yB x a b) = -yB x a b
  exact wr _ (by omega) (by omega)
 refine ze (zq (fun s : Nat × Its Int × (Ob × Ob × Ob) × Nat => s.1 ≤ c.length ∧ s.2.1.Perm (zS 0 (qr x c s.1)) ∧ HX s.2.2.1 (nx + 2) hv mv s.2.1) (fun (k, its, o, v) => [(0, yld l), (2, .ip (zm x)), (4, L c), (5, .ptr (nx + 3) hv 0), (6, .sl (nx + 5) v 1 0 c.length), (21, L c), (22, I c.length), (23, I k)]) (fun (k, its, o, v) => [.dead, .dead, o.1, o.2.1, o.2.2, .cells v 312 (xg (qr x c k) c.length)]) (fun s => c.length - s.1) (0, [], o1, v0) [] ⟨by simp, by simp [Vh, zS], m1⟩ (by simp) (by simp [Vh, ZeZ]) ?_)
 rintro ⟨k, its, o, v⟩ ⟨hk, hp, hm⟩
 simp only at hk hp hm ⊢
 (repeat apply za); refine pwn ?_; intros
 repeat apply za
 refine zk rfl (fun hq => ?_) (fun hq => ?_)
 ·simp at hq
  obtain ⟨a, tl, a1, a2, a3, e0⟩ := el1 rfl c k hq
  have hkl := Vi x c k (by omega)
  have hks := ZeX (x := x) a3
  have hput := Ze1 (qr x c k) c.length (qZ x c a) (by omega)
  have hat := Ze2 (qr x c k) c.length (qZ x c a)
  have hrl := Vj (qr x c k) c.length (by omega)
  have hrl2 := Vj (qr x c k ++ [qZ x c a]) c.length (by simp; omega)
  rw [hkl] at hput hat
  have hno : qp (k : Int) its = false := Vk (k := k) (rows := qr x c k) (by rw [List.getD_eq_getElem?_getD, List.getElem?_eq_none (by omega)]; rfl) hp
  have hil : its.length ≤ k := by rw [hp.length_eq]; exact Nat.le_trans (YU _ _) (by omega)
  refine zb (za (ze ?_))
  repeat apply za
  refine pwN [] (jn2 e0 hq) ?_
  intros
  repeat apply za
  refine pwn ?_
  refine pwC [] (ZeV x c a hx (by omega) hcsm (hcsm a (List.mem_of_getElem? a1))) (jn3 hput hrl hq) ?_
  refine ⟨by omega, ?_⟩
  intros
  have hw := hpw (qZ x c a) a rfl
  have hsn := Ze5 (qr x c k)
  have hsn0 := Ze4 (qr x c k)
  generalize hrow : qZ x c a = row at *
  have hat2 : ∀ h, (xg (qr x c k ++ [row]) c.length)[k]'h = L row := fun h => (List.getElem?_eq_some_iff.1 hat).2
  repeat apply za
  refine pwN [] (jn3 hat2 hq hrl2) ?_
  intros
  cases row with
  | nil =>
   repeat apply za
   refine zi rfl ?_
   refine zb ?_
   (repeat apply za); refine pwn ?_; intros
   refine zh (k + 1, its, o, v) [] ⟨hq, ?_, hm⟩ (by simp; omega) (by simp [wrN k (by omega)]) rfl (by simp [hks])
   simp only [hks, hsn0]
   exact hp
  | cons p rl =>
   have hwp := hw p (by simp)
   repeat apply za
   refine zj (by simp) ?_
   repeat apply za
   refine zM [] (by rfl) (by rfl) fun K Gc Gh hK hGc hGh X hX0 hX => ?_
   simp -implicitDefEqProofs [hX0, hX, hat2, hq, hrl2, hwp]
   try clear hX0 hX X
   refine hGc _ _ _ _ _ _ _ fun hsuf => ((W5 (j := 2) hm rfl rfl rfl (k : Int) (-p.s) (by omega)).mono ?_).v
   rintro _ T ⟨rfl, o2, m2, rfl⟩
   refine ⟨_, _, rfl, ?_⟩
   rw [hno] at m2
   simp only [cond_false] at m2
   clear hGc hGh
   clear Gc Gh
   refine zK hsuf (D := []) (by rfl) fun Gc Gh hGc hGh X hX0 hX => ?_
   simp -implicitDefEqProofs [hX0, hX]
   clear hX0 hX X
   intros
   refine hK _ _ _ ?_
   clear hK hGc hGh
   clear K Gc Gh
   (repeat apply za); refine pwn ?_; intros
   refine zh (k + 1, we ((k : Int), -p.s) its, o2, v) [] ⟨hq, ?_, m2⟩ (by simp; omega) (by simp [wrN k (by omega)]) rfl (by simp [hks])
   simp only [hks]
   have := hsn p rl
   rw [hkl] at this
   exact (Zw _ _).trans ((hp.cons _).trans this.symm)
 ·simp at hq
  obtain rfl : k = c.length := by omega
  obtain ⟨hb1, hb2, hb3⟩ := Zen (x := x) hz6
  rw [← ZeY] at hb1 hb2 hb3
  have hrl := Vi x c c.length (Nat.le_refl _)
  have hrc := Ze0 (qr x c c.length)
  rw [hrl] at hrc
  rw [hrc]
  generalize qr x c c.length = rows at *
  refine zo ?_
  repeat apply za
  refine ze (qS (σ := Nat × Store × List (List Pr) × Its Int × (Ob × Ob × Ob) × Nat) (fun s => s.1 ≤ (yd x c).length ∧ J s.1 s.2.1 ∧ Rows' c s.2.2.1 ∧ (∀ r ∈ s.2.2.1, Sd plt r) ∧ s.2.2.1.flatten.Perm ((yd x c).drop s.1) ∧ s.2.2.2.1.Perm (zS 0 s.2.2.1) ∧ HX s.2.2.2.2.1 (nx + 2) hv mv s.2.2.2.1) (fun s => [(0, yld l), (5, .ptr (nx + 3) hv 0), (6, .sl (nx + 5) s.2.2.2.2.2 1 0 c.length)]) (fun s => s.2.1) (fun s => [.dead, .dead, s.2.2.2.2.1.1, s.2.2.2.2.1.2.1, s.2.2.2.2.1.2.2, .cells s.2.2.2.2.2 312 (s.2.2.1.flatMap Enc.enc)]) (fun s => (yd x c).length - s.1) (zu (0, A0, rows, its, o, v) [] ⟨by simp, hA0, hb1, hb2, by simpa using hb3, hp, hm⟩ (by simp) rfl (by simp)) ?_)
  rintro ⟨i, A, rows, its, o, v⟩ ⟨hi, hJ, hr1, hr2, hr3, hp, hm⟩
  simp only at hi hJ hr1 hr2 hr3 hp hm ⊢
  have hrl : rows.length = c.length := hr1.len
  have hs := hm.srt
  repeat apply za
  refine ze ?_
  repeat apply za
  refine zM [] (by rfl) (by rfl) fun K Gc Gh hK hGc hGh X hX0 hX => ?_
  simp -implicitDefEqProofs [hX0, hX]
  try clear hX0 hX X
  refine hGc _ _ _ _ _ _ _ fun hsuf => ((Zd0 (j := 2) hm rfl rfl rfl).mono ?_).v
  rintro _ T ⟨rfl, o2, m2, rfl⟩
  refine ⟨_, _, rfl, ?_⟩
  cases its with
  | nil =>
   clear hGc hGh
   clear Gc Gh
   refine zK hsuf (D := []) (by rfl) fun Gc Gh hGc hGh X hX0 hX => ?_
   simp -implicitDefEqProofs [hX0, hX, vS, zv, jl]
   clear hX0 hX X
   intros
   refine hK _ _ _ ?_
   clear hK hGc hGh
   clear K Gc Gh
   have h0 : ∀ r ∈ rows, r = [] := by
    intro r hr
    cases r with
    | nil => rfl
    | cons p tl =>
     obtain ⟨j, hj⟩ := List.mem_iff_getElem?.1 hr
     have := (uB rows 0 ((j : Int), -p.s)).2 ⟨j, p, tl, hj, by rw [Nat.zero_add]⟩
     rw [List.nil_perm.1 hp] at this
     cases this
   have hfin := Zd8 hr3 hi h0
   repeat apply za
   refine pwN [(2, 61)] zr ?_
   intros
   repeat apply za
   refine zj rfl ?_
   repeat apply za
   exact zd (xJ (hJd _ _ hJ) rfl (by simpa [hfin] using hJ))
  | cons it r =>
   obtain ⟨q, y, tl, e1, e2, e3, e4, e5, e6, e7⟩ := Zeo hz6 hr1 hr2 hr3 hs hp.symm
   subst e1
   have hql := (List.getElem?_eq_some_iff.1 e2).1
   have hql2 : q < c.length := by omega
   obtain ⟨y', tr, a1, a2, a3, e0⟩ := el1 rfl rows q hql
   rw [e2] at a1; cases a1
   have hil := (List.getElem?_eq_some_iff.1 e4).1
   have hyx : ((yd x c).map prV)[i]? = some (prV y) := by rw [List.getElem?_map, e4]; rfl
   clear hGc hGh
   clear Gc Gh
   refine zK hsuf (D := []) (by rfl) fun Gc Gh hGc hGh X hX0 hX => ?_
   simp -implicitDefEqProofs [hX0, hX, vS, zv, jl]
   clear hX0 hX X
   intros
   refine hK _ _ _ ?_
   clear hK hGc hGh
   clear K Gc Gh
   repeat apply za
   refine zM [(2, 61)] (by rfl) (by rfl) fun K Gc Gh hK hGc hGh X hX0 hX => ?_
   simp -implicitDefEqProofs [hX0, hX, e0, hql2, hrl, undef]
   try clear hX0 hX X
   refine hGh _ _ _ _ _ fun hsuf => Zj rfl rfl rfl (hY _ _ _ _ hyx hJ) ?_
   rintro _ ⟨A', hJ', rfl⟩
   refine ⟨_, _, rfl, ?_⟩
   clear hGc hGh
   clear Gc Gh
   refine zK hsuf (D := [(2, 61)]) (by rfl) fun Gc Gh hGc hGh X hX0 hX => ?_
   simp -implicitDefEqProofs [hX0, hX]
   try clear hX0 hX X
   intros
   refine hK _ _ _ ?_
   clear hK hGc hGh
   clear K Gc Gh
   repeat apply za
   refine zi rfl ?_
   refine zb ?_
   have hsp := Ze3 rows q tl hql
   have hrl2 : (rows.set q tl).length = c.length := by simp [hrl]
   have hql3 : q < (rows.set q tl).length := by omega
   obtain ⟨y', tr', a1, a2, a3, e0'⟩ := el1 rfl (rows.set q tl) q hql3
   rw [List.getElem?_set_self hql] at a1; cases a1
   have hno : qp (q : Int) r = false := Vk (rows := rows.set q []) (by rw [List.getD_eq_getElem?_getD, List.getElem?_set_self hql]; rfl) e3
   have hlen : r.length ≤ 1048576 := by rw [e3.length_eq]; exact Nat.le_trans (YU _ _) (by simp; omega)
   have hperm := fun p tz => YT rows 0 q p tz hql
   repeat apply za
   refine pwN [] (jn4 e0 hql2 hrl hsp) ?_
   refine ⟨by omega, ?_⟩
   intros
   repeat apply za
   refine pwN [] (jn3 e0' hql2 hrl2) ?_
   intros
   cases tl with
   | nil =>
    repeat apply za
    refine zi rfl ?_
    refine zb ?_
    exact zh (i + 1, A', rows.set q [], r, o2, v) [] ⟨hil, hJ', e5, e6, e7, e3, m2⟩ (by simp; omega) (by simp) rfl (by simp)
   | cons z tz =>
    have hzm : z ∈ (rows.set q (z :: tz)).flatten := List.mem_flatten.2 ⟨z :: tz, List.mem_of_getElem? (List.getElem?_set_self hql), by simp⟩
    have hzp : z ∈ jD x c := (wh x c).subset (List.mem_of_mem_drop (e7.subset hzm))
    have hzs := (vU.1 hzp).2.2.2
    have hwz : IntKind.i64.wrap (-z.s) = -z.s := by
     rw [hzs]
     have := Jz hx z.a z.b
     exact wr _ (by omega) (by omega)
    repeat apply za
    refine zj (by simp) ?_
    repeat apply za
    refine zM [] (by rfl) (by rfl) fun K Gc Gh hK hGc hGh X hX0 hX => ?_
    simp -implicitDefEqProofs [hX0, hX, e0', hql2, hrl2, hwz]
    try clear hX0 hX X
    refine hGc _ _ _ _ _ _ _ fun hsuf => ((W5 (j := 2) m2 rfl rfl rfl (q : Int) (-z.s) (by simp; omega)).mono ?_).v
    rintro _ T ⟨rfl, o3, m3, rfl⟩
    refine ⟨_, _, rfl, ?_⟩
    simp only [List.tail_cons] at m3
    rw [hno] at m3
    simp only [cond_false] at m3
    clear hGc hGh
    clear Gc Gh
    refine zK hsuf (D := []) (by rfl) fun Gc Gh hGc hGh X hX0 hX => ?_
    simp -implicitDefEqProofs [hX0, hX]
    clear hX0 hX X
    intros
    refine hK _ _ _ ?_
    clear hK hGc hGh
    clear K Gc Gh
    refine zh (i + 1, A', rows.set q (z :: tz), we ((q : Int), -z.s) r, o3, v) [] ⟨hil, hJ', e5, e6, e7, ?_, m3⟩ (by simp; omega) (by simp) rfl (by simp)
    have := hperm z tz
    rw [Nat.zero_add] at this
    exact (Zw _ _).trans ((e3.cons _).trans this.symm)
open Go Hp
theorem JE {x : Inst} {c : List Int} (h : c.Nodup) (hc : c.length ≤ 1000) : (yd x c).length ≤ 1000000 := by
 rw [Zed h]
 exact Nat.le_trans (Nat.mul_le_mul hc (Nat.sub_le _ _)) (Nat.mul_le_mul_left 1000 hc)
open Go Hp
def jF (x : Inst) (c : List Int) (i k : Nat) (a : Int) : List Pr := (c.take i).flatMap (yl x c) ++ yl x (c.take k) a
theorem Vl (x : Inst) (c : List Int) (i k : Nat) (a : Int) (h : c[i]? = some a) : (jF x c i k a).Sublist (jD x c) := by
 unfold jF jD
 obtain ⟨hi, e⟩ := List.getElem?_eq_some_iff.1 h
 have e3 : c = c.take i ++ a :: c.drop (i + 1) := by
  conv => lhs; rw [← List.take_append_drop i c, List.drop_eq_getElem_cons hi, e]
 have h2 : (yl x (c.take k) a).Sublist (yl x c a) := ((List.take_sublist k c).filter _).map _
 have h3 : ∀ f : Int → List Pr, c.flatMap f = (c.take i).flatMap f ++ (f a ++ (c.drop (i + 1)).flatMap f) := by
  intro f
  conv => lhs; rw [e3]
  simp
 rw [h3]
 exact (List.Sublist.refl _).append (h2.trans (List.sublist_append_left _ _))
theorem Ze8 (x : Inst) (c : List Int) (i : Nat) (a : Int) (h : c.take (i + 1) = c.take i ++ [a]) : jF x c i c.length a = (c.take (i + 1)).flatMap (yl x c) := by
 unfold jF
 rw [h, List.take_length]; simp
theorem Ze9 (x : Inst) (c : List Int) (i : Nat) (a : Int) : jF x c i 0 a = (c.take i).flatMap (yl x c) := by simp [jF, yl]
theorem Zfa {x : Inst} {c : List Int} {i k : Nat} {a : Int} (h : c.take (k + 1) = c.take k ++ [a]) : jF x c i (k + 1) a = jF x c i k a := by
 unfold jF
 rw [h, JD]; simp
theorem Vm {x : Inst} {c : List Int} {i k : Nat} {a b : Int} (h : c.take (k + 1) = c.take k ++ [b]) (hab : b ≠ a) : jF x c i (k + 1) a = jF x c i k a ++ [⟨a, b, yB x a b⟩] := by
 unfold jF
 rw [h, JD, if_pos hab]; simp
theorem Zfb {x : Inst} {c : List Int} (hn : c.Nodup) {i k : Nat} {a b : Int} (hi : c[i]? = some a) (h : c.take (k + 1) = c.take k ++ [b]) (hab : b ≠ a) {out : List Pr} (hp : out.Perm (jF x c i k a)) (hs : Sd plt out) {j : Nat} (h1 : ∀ (j' : Nat) z, j ≤ j' → out[j']? = some z → plt ⟨a, b, yB x a b⟩ z = true) (h2 : j = 0 ∨ ∃ z, out[j - 1]? = some z ∧ plt ⟨a, b, yB x a b⟩ z = false) :
  (out.take j ++ ⟨a, b, yB x a b⟩ :: out.drop j).Perm (jF x c i (k + 1) a) ∧ Sd plt (out.take j ++ ⟨a, b, yB x a b⟩ :: out.drop j) := by
 have hsub := Vl x c i (k + 1) a hi
 have hnd := (YS (x := x) hn).sublist hsub
 rw [Vm h hab] at hnd ⊢
 have hno : (⟨a, b, yB x a b⟩ : Pr) ∉ out := by
  intro hm
  have := List.nodup_append.1 hnd
  exact this.2.2 _ (hp.subset hm) _ (by simp) rfl
 refine ⟨(Zea out _ j).trans ?_, Zd9 YR hs hno h1 h2⟩
 exact (hp.cons _).trans (List.perm_append_comm (l₁ := [_]))
set_option maxRecDepth 20000 in
theorem Zfc (x : Inst) (ss : List Stop) (hx : ye x) (hss : ss.length ≤ 1000) (hs : ∀ s ∈ ss, small s.c) (hnd : (ss.map (·.c)).Nodup) : Pure Tryz.prog 140 [.agg (zm x), L ss] (L (yd x (ss.map (·.c)))) := by
 obtain ⟨c, hc⟩ : ∃ c, c = ss.map (·.c) := ⟨_, rfl⟩
 have hcl : c.length = ss.length := by rw [hc]; simp
 have hpl := JE (x := x) hnd (by simpa using hss)
 rw [← hc] at hnd hpl ⊢
 have hat : ∀ (k : Nat) (s : Stop), ss[k]? = some s → c[k]? = some s.c := by intro k s h; rw [hc, List.getElem?_map, h]; rfl
 have htk : ∀ (k : Nat) (s : Stop), ss.take (k + 1) = ss.take k ++ [s] → c.take (k + 1) = c.take k ++ [s.c] := by
  intro k s h; rw [hc, ← List.map_take, h, ← List.map_take]; simp
 have hbig : ∀ l : List Pr, l.Sublist (jD x c) → l.length ≤ 1000000 := by
  intro l h
  have h1 := h.length_le
  have h2 := (wh x c).length_eq
  omega
 clear hc
 refine pwe Tryz.func140 Tryz.ntmps140 Tryz.results140 fun S nx hd => ?_
 repeat apply za
 refine pwn ?_
 intro v0
 (repeat apply za); refine pwn ?_; intros
 refine za (Yu 5 rfl ?_)
 (repeat apply za); refine pwn ?_; intros
 repeat apply za
 refine ze (zq (fun s : Nat × List Pr => s.1 ≤ ss.length ∧ s.2.Perm ((c.take s.1).flatMap (yl x c)) ∧ Sd plt s.2) (fun (i, out) => [(1, L ss), (2, .ptr nx v0 0), (5, L out), (6, I i)]) (fun (i, out) => [.cells v0 25 (zm x)]) (fun s => ss.length - s.1) (0, []) [] ⟨by simp, by simp, List.Pairwise.nil⟩ (by simp) (by simp) ?_)
 rintro ⟨i, out⟩ ⟨hi, hp, hsd⟩
 simp only at hi hp hsd ⊢
 (repeat apply za); refine pwn ?_; intros
 repeat apply za
 refine zk rfl (fun hq => ?_) (fun hq => ?_)
 ·simp at hq
  obtain ⟨s, tl, a1, a2, a3, e1, e0⟩ := el 2 rfl ss i hq
  have hai := hat i s a1
  have hsa := hs s (List.mem_of_getElem? a1)
  rw [← Ze9 x c i s.c] at hp
  refine zb (za (ze ?_))
  (repeat apply za); refine pwn ?_; intros
  repeat apply za
  refine ze (zq (fun t : Nat × List Pr => t.1 ≤ ss.length ∧ t.2.Perm (jF x c i t.1 s.c) ∧ Sd plt t.2) (fun (k, out) => [(1, L ss), (2, .ptr nx v0 0), (5, L out), (6, I i), (7, I k)]) (fun (k, out) => [.cells v0 25 (zm x)]) (fun t => ss.length - t.1) (0, out) [] ⟨by simp, hp, hsd⟩ (by simp) (by simp) ?_)
  clear hp hsd out
  rintro ⟨k, out⟩ ⟨hk, hp, hsd⟩
  simp only at hk hp hsd ⊢
  (repeat apply za); refine pwn ?_; intros
  repeat apply za
  refine zk rfl (fun hq2 => ?_) (fun hq2 => ?_)
  ·simp at hq2
   obtain ⟨t, tl2, b1, b2, b3, f1, f0⟩ := el 2 rfl ss k hq2
   have hst := hs t (List.mem_of_getElem? b1)
   have hck := htk k t b3
   have hol : out.length ≤ 1000000 := by rw [hp.length_eq]; exact hbig _ (Vl x c i k s.c hai)
   refine zb (za (ze ?_))
   (repeat apply za); refine pwn ?_; intros
   repeat apply za
   refine zk rfl (fun hik => ?_) (fun hik => ?_)
   ·simp at hik
    obtain rfl : i = k := by omega
    rw [a1] at b1; cases b1
    refine zo ?_
    (repeat apply za); refine pwn ?_; intros
    exact zh (i + 1, out) [] ⟨hq2, by rw [Zfa hck]; exact hp, hsd⟩ (by simp; omega) (by simp [wrN i (by omega)]) rfl (by simp)
   ·simp at hik
    have hba : t.c ≠ s.c := by
     intro e
     have hck2 := hat k t b1
     obtain ⟨g1, g2⟩ := List.getElem?_eq_some_iff.1 hai
     obtain ⟨g3, g4⟩ := List.getElem?_eq_some_iff.1 hck2
     have hp2 := List.pairwise_iff_getElem.1 hnd
     rcases Nat.lt_trichotomy i k with h | h | h
     ·exact hp2 i k g1 g3 h (by rw [g2, g4, e])
     ·exact hik (by omega)
     ·exact hp2 k i g3 g1 h (by rw [g2, g4, e])
    have hput := fun j => Zfb (x := x) hnd hai hck hba hp hsd (j := j)
    have hnx := Vm (x := x) (i := i) hck hba
    obtain ⟨p, hpp⟩ : ∃ p : Pr, p = ⟨s.c, t.c, yB x s.c t.c⟩ := ⟨_, rfl⟩
    have hp1 : s.c = p.a := by rw [hpp]
    have hp2 : t.c = p.b := by rw [hpp]
    have hp3 : yB x s.c t.c = p.s := by rw [hpp]
    rw [← hpp] at hput
    refine zb ?_
    repeat apply za
    refine pwY (some [nx]) (Row.pures [0, 1, 2, 3, 4, 5, 6, 7, 8, 9, 10, 11, 12, 13, 14, 15, 16, 17, 18, 19, 20, 21, 22] (.alt 23 (.alt 24 (.done) .stop) .stop)) mixed (jn6 e1 e0 f1 f0 hq hq2) ?_
    refine pwP (Zer x s.c t.c hx hsa hst) (jn6 e1 e0 f1 f0 hq hq2) ?_
    intro v1
    intros
    rw [hp3, hp1, hp2]
    (repeat apply za); refine pwn ?_; intros
    repeat apply za
    refine yc (nx := nx) (fun j : Nat => j ≤ out.length ∧ (∀ (j' : Nat) z, j ≤ j' → out[j']? = some z → plt p z = true) ∧ (j = 0 ∨ ∃ z, out[j - 1]? = some z ∧ plt p z = false)) (fun j => [(1, L ss), (2, .ptr nx v0 0), (5, L out), (6, I i), (7, I k), (8, .ptr (nx + 1) v1 0), (9, I j)]) (fun _ => S) (fun j => [.cells v0 25 (zm x), .cells v1 185 (Enc.enc p)]) ?_ ?_
    ·refine ze (zq (fun j : Nat => j ≤ out.length ∧ (∀ (j' : Nat) z, j ≤ j' → out[j']? = some z → plt p z = true)) (fun j => [(1, L ss), (2, .ptr nx v0 0), (5, L out), (6, I i), (7, I k), (8, .ptr (nx + 1) v1 0), (9, I j)]) (fun j => [.cells v0 25 (zm x), .cells v1 185 (Enc.enc p)]) (fun j => j) out.length [] ⟨Nat.le_refl _, fun j' z h1 h2 => by have := (List.getElem?_eq_some_iff.1 h2).1; omega⟩ (by simp) (by simp) ?_)
     rintro j ⟨hj, hj2⟩
     by_cases h0 : 0 < j
     ·obtain ⟨m, rfl⟩ : ∃ m, j = m + 1 := ⟨j - 1, by omega⟩
      obtain ⟨z, tz, c1, c2, c3, g1, g0⟩ := el 3 rfl out m (by omega)
      have wm : IntKind.i64.wrap (m : Int) = m := wr _ (by omega) (by omega)
      have hm1 : m < out.length := by omega
      have hm2 : (0 : Int) < (m : Int) + 1 := by omega
      repeat apply za
      refine pwY none (Row.pures [0, 1, 2, 3, 4, 5, 6, 7, 8, 9, 10] .done) mixed (jn6 wm hm1 hm2 g1 g0 zr) ?_
      refine pwP (Zes p z) (jn6 wm hm1 hm2 g1 g0 zr) ?_
      intros
      repeat apply za
      refine zk rfl (fun ha => ?_) (fun ha => ?_)
      ·refine zb (ze ?_)
       repeat apply za
       refine pwN [] wm ?_
       intros
       refine zh m [] ⟨by omega, fun j' z' h1 h2 => ?_⟩ (by simp) (by simp [wm]) rfl (by simp)
       by_cases e : j' = m
       ·subst e; rw [c1] at h2; cases h2; exact ha
       ·exact hj2 j' z' (by omega) h2
      ·refine zo ?_
       exact zu (m + 1) [] ⟨hj, hj2, .inr ⟨z, c1, ha⟩⟩ (by simp) rfl (by simp)
     ·obtain rfl : j = 0 := by omega
      repeat apply za
      refine pwY none (Row.pures [0, 1, 2, 3, 4, 5, 6, 7, 8, 9, 10] .done) mixed zr ?_
      intros
      repeat apply za
      refine zi rfl ?_
      refine zo ?_
      exact zu 0 [] ⟨hj, hj2, .inl rfl⟩ (by simp) rfl (by simp)
    ·rintro j ⟨hj, hj1, hj2⟩
     obtain ⟨r1, r2⟩ := hput j hj1 hj2
     have htk3 : (out.flatMap Enc.enc).take (j * 3) = (out.take j).flatMap Enc.enc := jM Enc.enc 3 (fun _ => rfl) out j
     have hdr3 : (out.flatMap Enc.enc).drop (j * 3) = (out.drop j).flatMap Enc.enc := j6 Enc.enc 3 (fun _ => rfl) out j
     (repeat apply za); refine pwn ?_; intros
     refine za (qm 10 185 3 rfl fun v2 => ?_)
     repeat apply za
     refine pwN [] (jn2 htk3 hj) ?_
     refine ⟨by omega, ?_⟩
     intros
     have hjl : (out.take j).length = j := by simp; omega
     have hfl : ((out.take j).flatMap Enc.enc).length = j * 3 := by rw [Va, hjl]
     have hjm : min j out.length = j := by omega
     have htt : ((out.take j).flatMap Enc.enc).take (j * 3) = (out.take j).flatMap Enc.enc := List.take_of_length_le (by omega)
     have hw1 : ((out.take j).flatMap Enc.enc ++ Enc.enc p).length = (j + 1) * 3 := by simp [hfl]; omega
     have hw2 : ((out.take j).flatMap Enc.enc ++ Enc.enc p).take ((j + 1) * 3) = (out.take j).flatMap Enc.enc ++ Enc.enc p := List.take_of_length_le (by omega)
     simp only [Zep] at hw1 hw2
     repeat apply za
     refine pwN [] (jn3 hfl hjm htt) ?_
     refine ⟨by omega, ?_⟩
     intros
     repeat apply za
     refine pwN [] (jn4 hdr3 hj hw1 hw2) ?_
     refine ⟨by omega, ?_⟩
     intros
     refine zC 2 rfl ?_
     (repeat apply za); refine pwn ?_; intros
     have hol2 : (out.take j ++ p :: out.drop j).length = out.length + 1 := by simp; omega
     refine zh (k + 1, out.take j ++ p :: out.drop j) [_, _] ⟨hq2, hp1 ▸ r1, r2⟩ (by simp; omega) ?_ rfl (by simp; exact ⟨rfl, rfl⟩)
     simp [wrN k (by omega), hol2]
     have x1 : j + 1 + (out.length - j) = out.length + 1 := by omega
     have x2 : ((out.drop j).flatMap Enc.enc).take ((out.length - j) * 3) = (out.drop j).flatMap Enc.enc := List.take_of_length_le (by rw [Va]; simp)
     rw [if_pos (by omega), x2, x1]
     simp [hol2]
  ·simp at hq2
   obtain rfl : k = c.length := by omega
   rw [Ze8 x c i s.c (htk i s a3)] at hp
   refine zo ?_
   (repeat apply za); refine pwn ?_; intros
   exact zh (i + 1, out) [] ⟨hq, hp, hsd⟩ (by simp; omega) (by simp [wrN i (by omega)]) rfl (by simp)
 ·simp at hq
  obtain rfl : i = c.length := by omega
  rw [List.take_length] at hp
  have : out = yd x c := W9 hnd hp hsd
  subst this
  refine zo ?_
  (repeat apply za); refine pwn ?_; intros
  repeat apply za
  exact zd (zg hd rfl rfl)
open Go Hp
def vi (x : Inst) (ss : List Stop) (i : Nat) : Day × Int := ((yd x (ss.map (·.c))).take i).foldl (yu x) (ss.map fun s => [s], (ss.length : Int))
theorem Zfd (x : Inst) (ss : List Stop) : vi x ss 0 = (ss.map fun s => [s], (ss.length : Int)) := by simp [vi]
theorem Zfe {x : Inst} {ss : List Stop} {i : Nat} {p : Pr} (h : (yd x (ss.map (·.c)))[i]? = some p) : vi x ss (i + 1) = yu x (vi x ss i) p := by
 unfold vi
 obtain ⟨h1, e⟩ := List.getElem?_eq_some_iff.1 h
 rw [List.take_succ_eq_append_getElem h1, e, List.foldl_append]; rfl
theorem Zff (x : Inst) (ss : List Stop) : vi x ss (yd x (ss.map (·.c))).length = JA x ss := by simp [vi, JA]
theorem Zfg (x : Inst) (T : Day) (num : Int) (p : Pr) : num - 1 ≤ (yu x (T, num) p).2 ∧ (yu x (T, num) p).2 ≤ num := by
 unfold yu uC
 cases yf x (T, num).2 p (xz (T, num).1 p.a) (xz (T, num).1 p.b) ((T, num).1.getD (xz (T, num).1 p.a) []) ((T, num).1.getD (xz (T, num).1 p.b) []) <;> simp <;> omega
set_option maxRecDepth 20000 in
set_option maxHeartbeats 1600000 in
theorem Zfh (x : Inst) (ss : List Stop) (hx : ye x) (hxc : x.cust.length ≤ 1048576) (hss : ss.length ≤ 1000) (hs : ∀ s ∈ ss, small s.c) (hnd : (ss.map (·.c)).Nodup) : Pure Tryz.prog 218 [.agg (zm x), L ss] (.agg [L (qq x ss)]) := by
 have hpl := JE (x := x) hnd (by simpa using hss)
 have hkey : KeyOk (.int .i64) yr := vR .i64
 have hdist : ∀ k s, ss[k]? = some s → s.c ∉ (ss.take k).map (·.c) := by
  intro k s h hm
  obtain ⟨s', h1, h2⟩ := List.mem_map.1 hm
  obtain ⟨j, hj⟩ := List.mem_iff_getElem?.1 h1
  rw [List.getElem?_take] at hj
  split at hj
  ·rename_i hjk
   have e1 : (ss.map (·.c))[j]? = some s.c := by rw [List.getElem?_map, hj, ← h2]; rfl
   have e2 : (ss.map (·.c))[k]? = some s.c := by rw [List.getElem?_map, h]; rfl
   obtain ⟨g1, g2⟩ := List.getElem?_eq_some_iff.1 e1
   obtain ⟨g3, g4⟩ := List.getElem?_eq_some_iff.1 e2
   exact List.pairwise_iff_getElem.1 hnd j k g1 g3 hjk (g2.trans g4.symm)
  ·cases hj
 refine pwe Tryz.func218 Tryz.ntmps218 Tryz.results218 fun S nx hd => ?_
 repeat apply za
 refine pwn ?_
 intro v0 v1
 repeat apply za
 refine pwn ?_
 intro v2 v3 v4
 refine yN 3 6 46 1 rfl rfl fun v5 => ?_
 (repeat apply za); refine pwn ?_; intros
 repeat apply za
 refine ze (zq (fun s : Nat × Day × List (Value × PV) × (Int → Option Int) × Nat => s.1 ≤ ss.length ∧ s.2.1 = (ss.take s.1).map (fun s => [s]) ∧ MapIs yr I s.2.2.1 s.2.2.2.1 ∧ JI (ss.take s.1) s.2.1 s.2.2.2.1) (fun (k, T, es, g, v5) => [(1, L ss), (2, .ptr nx v0 0), (4, .ptr (nx + 1) v1 0), (5, .ptr (nx + 4) v4 0), (18, L ss), (19, I ss.length), (20, I k)])
  (fun (k, T, es, g, v5) => [.cells v0 25 (zm x), .cells v1 66 [.sc (.slice none 0 0)], .map v2 es, .cells v3 290 (uD x (nx + 5) v5 k ss.length (nx + 2) v2), .cells v4 287 [.ptr (nx + 3) v3 0], .cells v5 46 (T.flatMap Enc.enc)]) (fun s => ss.length - s.1) (0, [], [], fun _ => none, v5) [] ⟨by simp, by simp, WS _ _, by simpa using JI.nil⟩ (by simp) (by simp) ?_)
 rintro ⟨k, T, es, g, v5⟩ ⟨hk, hT, hm, hI⟩
 simp only at hk hT hm hI ⊢
 have hTl : T.length = k := by rw [hT]; simp; omega
 (repeat apply za); refine pwn ?_; intros
 repeat apply za
 refine zk rfl (fun hq => ?_) (fun hq => ?_)
 ·simp at hq
  obtain ⟨s, tl, a1, a2, a3, e1, e0⟩ := el 2 rfl ss k hq
  obtain ⟨rs, f1, _, _, f4, _⟩ := hm.find hkey s.c
  have hnew := f4 (k : Int)
  have hIn := hI.snoc s (hdist k s a1)
  have hkl : (ss.take k).length = k := by simp; omega
  rw [hkl, ← a3] at hIn
  have hTs : T ++ [[s]] = (ss.take (k + 1)).map fun s => [s] := by rw [a3, hT]; simp
  have htf : (T.flatMap Enc.enc).take k = T.flatMap Enc.enc := List.take_of_length_le (by rw [yD]; omega)
  have htl : (T.flatMap Enc.enc).length = k := by rw [yD, hTl]
  refine zb (za (ze ?_))
  repeat apply za
  refine pwN [] (jn3 e1 e0 hq) ?_
  intro v6
  repeat apply za
  refine pwY (some [nx + 4, nx + 6]) (Row.pures [0, 1, 2, 3, 5, 6, 7] (.alt 4 (.alt 8 (Row.pures [9, 10] (.alt 11 (.done) .stop)) .stop) .stop)) mixed (jn2 htf htl) ?_
  refine ⟨⟨by omega, by omega⟩, ?_⟩
  intros
  repeat apply za
  refine xH (some [nx + 3, nx + 4, nx + 6]) (Row.pures [0, 1, 2, 3, 4, 5, 6] (.alt 7 (.done) .stop)) mixed (by rfl) (by rfl) (by rfl) fun K Gp Gc Gh hK hGp hGc hGh X hX0 hX1 hX2 hX => ?_
  simp -implicitDefEqProofs [hX0, hX1, hX2, hX]
  try clear hX0 hX1 hX2 hX X
  refine hGh _ _ _ _ _ (by rfl) (Zg (.inl rfl) Tryz.underlying288 Tryz.underlying3 rfl rfl rfl (by simp) f1 ?_)
  rw [qg _ (by omega) (by simp), show nx + 2 - nx = 2 from by omega]
  refine ⟨by simp [zV], ?_⟩
  clear hGp hGc hGh
  clear Gp Gc Gh
  refine qQ fun Gp Gc Gh hGp hGc hGh X hX0 hX1 hX2 hX => ?_
  simp -implicitDefEqProofs [hX0, hX1, hX2, hX]
  try clear hX0 hX1 hX2 hX X
  refine hK _ _ _ ?_
  clear hK hGp hGc hGh
  clear K Gp Gc Gh
  (repeat apply za); refine pwn ?_; intros
  exact zh (k + 1, T ++ [[s]], qb (yr s.c) (I k) es rs, yA g s.c (some (k : Int)), v5 + 1) [_] ⟨hq, hTs, hnew, hIn⟩ (by simp; omega) (by simp [wrN k (by omega)]) rfl (by simp; rfl)
 ·simp at hq
  obtain rfl : k = ss.length := by omega
  rw [List.take_length] at hT hI
  refine zo ?_
  repeat apply za
  refine pwn ?_
  refine pwc (Ze6 x ss) ?_
  intros
  repeat apply za
  refine ze (Zm (xs := (yd x (ss.map (·.c))).map prV) (σ := Day × Int × List (Value × PV) × (Int → Option Int)) (fun i s => (s.1, s.2.1) = vi x ss i ∧ i ≤ (yd x (ss.map (·.c))).length ∧ MapIs yr I s.2.2.1 s.2.2.2 ∧ JI ss s.1 s.2.2.2 ∧ (ss.length : Int) - i ≤ s.2.1 ∧ s.2.1 ≤ ss.length) [(4, .ptr (nx + 1) v1 0), (5, .ptr (nx + 4) v4 0)] (fun _ => S)
   (fun (T, num, es, g) => [.cells v0 25 (zm x), .cells v1 66 [.sc (.slice none 0 0)], .map v2 es, .cells v3 290 (uD x (nx + 5) v5 ss.length num (nx + 2) v2), .cells v4 287 [.ptr (nx + 3) v3 0], .cells v5 46 (T.flatMap Enc.enc)]) (T, (ss.length : Int), es, g)
   (Ze7 x ss hx (by omega) hs hnd) rfl (by intro x hx; obtain ⟨y, _, rfl⟩ := List.mem_map.1 hx; rfl) (by decide) (by simp) ⟨by rw [Zfd, hT], by simp, hm, hI, by simp, by simp⟩ rfl (by simp) (by simp) ?_ ?_)
  ·clear hm hI hT hTl
   rintro l i ⟨T, num, es, g⟩ more y ⟨hst, hi, hm, hI, hn1, hn2⟩ hy
   simp only at hst hi hm hI hn1 hn2 ⊢
   rw [List.getElem?_map] at hy
   obtain ⟨p, hp, rfl⟩ := Option.map_eq_some_iff.1 hy
   obtain ⟨hil, hpi⟩ := List.getElem?_eq_some_iff.1 hp
   have hmem := vU.1 ((wh x _).subset (List.mem_of_getElem? hp))
   have hsucc := Zfe hp
   rw [← hst] at hsucc
   obtain ⟨nb1, nb2⟩ := Zfg x T num p
   repeat apply za
   refine zM [] (by rfl) (by rfl) fun K Gc Gh hK hGc hGh X hX0 hX => ?_
   simp -implicitDefEqProofs [hX0, hX, prV]
   try clear hX0 hX X
   intro v6
   refine hK _ _ _ ?_
   clear hK hGc hGh
   clear K Gc Gh
   refine ze ?_
   repeat apply za
   refine zM [] (by rfl) (by rfl) fun K Gc Gh hK hGc hGh X hX0 hX => ?_
   simp -implicitDefEqProofs [hX0, hX]
   try clear hX0 hX X
   refine hGc _ _ _ _ _ _ _ fun hsuf => ((ZeA x ss T g num es hxc hss (by omega) hI hm (jid := nx + 3) (tid := nx + 5) (mid := nx + 2) (by rw [yM]; rfl) (by rw [yM]; rfl) (by rw [yM]; rfl) (by omega) (by omega) (by omega) p hmem.1 hmem.2.1).mono ?_).v
   rintro _ _ ⟨es2, g2, m2, i2, rfl⟩
   refine ⟨_, _, (by rw [qg _ (by omega) (by simp), qg _ (by omega) (by simp), qg _ (by omega) (by simp)]), ?_⟩
   clear hGc hGh
   clear Gc Gh
   refine zK hsuf (D := []) (by rfl) fun Gc Gh hGc hGh X hX0 hX => ?_
   simp -implicitDefEqProofs [hX0, hX, (show nx + 3 - nx = 3 from by omega), (show nx + 5 - nx = 5 from by omega), (show nx + 2 - nx = 2 from by omega)]
   clear hX0 hX X
   intros
   refine hK _ _ _ ?_
   clear hK hGc hGh
   clear K Gc Gh
   simp only [yK]
   exact jN ((yu x (T, num) p).1, (yu x (T, num) p).2, es2, g2) [_] ⟨hsucc.symm, by omega, m2, i2, by simp only; omega, by simp only; omega⟩ rfl (by simp; rfl)
  ·clear hm hI hT hTl
   rintro ⟨T, num, es, g⟩ ⟨hst, -, hm, hI, -, -⟩
   simp only [List.length_map] at hst hI ⊢
   rw [Zff] at hst
   have hTl := hI.len
   have hjp : qq x ss = T.filter fun t => !t.isEmpty := by unfold qq; rw [← hst]
   rw [hjp]
   repeat apply za
   refine pwn ?_
   intro v6
   refine yN 6 0 72 1 rfl rfl fun v7 => ?_
   (repeat apply za); refine pwn ?_; intros
   repeat apply za
   refine ze (zq (fun s : Nat × Day × Nat => s.1 ≤ T.length ∧ s.2.1 = (T.take s.1).filter fun t => !t.isEmpty) (fun (k, out, v7) => [(4, .ptr (nx + 1) v1 0), (9, .ptr (nx + 6) v6 0), (54, .sl (nx + 5) v5 1 0 ss.length), (55, I ss.length), (56, I k)]) (fun (k, out, v7) => [.cells v0 25 (zm x), .cells v1 66 [.sc (.slice none 0 0)], .map v2 es, .cells v3 290 (uD x (nx + 5) v5 ss.length num (nx + 2) v2), .cells v4 287 [.ptr (nx + 3) v3 0], .cells v5 46 (T.flatMap Enc.enc), .cells v6 66 [.sl (nx + 7) v7 1 0 out.length], .cells v7 72 (out.flatMap Enc.enc)]) (fun s => T.length - s.1) (0, [], v7) [] ⟨by simp, by simp⟩ (by simp) (by simp) ?_)
   rintro ⟨k, out, v7⟩ ⟨hk, ho⟩
   simp only at hk ho ⊢
   have hol : out.length ≤ k := by rw [ho]; exact Nat.le_trans (List.length_filter_le _ _) (by simp; omega)
   (repeat apply za); refine pwn ?_; intros
   repeat apply za
   refine zk rfl (fun hq => ?_) (fun hq => ?_)
   ·simp at hq
    obtain ⟨t, tl, a1, a2, a3, e0⟩ := el1 rfl T k (by omega)
    have hfs : (T.take (k + 1)).filter (fun t => !t.isEmpty) = out ++ (if t = [] then [] else [t]) := by
     rw [a3, List.filter_append, ← ho]
     cases t <;> simp
    refine zb (za (ze ?_))
    repeat apply za
    refine pwN [] (jn3 e0 hq hTl) ?_
    intros
    (repeat apply za); refine pwn ?_; intros
    cases t with
    | nil =>
     rw [if_pos rfl, List.append_nil] at hfs
     repeat apply za
     refine zi (by simp) ?_
     refine zb ?_
     (repeat apply za); refine pwn ?_; intros
     exact zh (k + 1, out, v7) [] ⟨by omega, hfs.symm⟩ (by simp; omega) (by simp [wrN k (by omega)]) rfl (by simp)
    | cons s t =>
     rw [if_neg (by simp)] at hfs
     repeat apply za
     refine zj (by simp) ?_
     repeat apply za
     refine pwn ?_
     refine ⟨by omega, ?_⟩
     intros
     (repeat apply za); refine pwn ?_; intros
     exact zh (k + 1, out ++ [s :: t], v7 + 1) [] ⟨by omega, hfs.symm⟩ (by simp; omega) (by simp [wrN k (by omega)]) rfl (by simp)
   ·simp at hq
    obtain rfl : k = T.length := by omega
    rw [List.take_length] at ho
    refine zo ?_
    refine zC 7 rfl ?_
    (repeat apply za); refine pwn ?_; intros
    repeat apply za
    exact zd (zg hd (by simp; rfl) (by simp [zl, ho]))
open Go Hp
abbrev zJ : PV := .sc (.slice none 0 0)
open Go Hp
def vV (pl : PV) : Prop := pl = zJ ∨ ∃ n cs, pl = .lst n cs
theorem vW (l : List Stop) : vV (L l) := .inr ⟨_, _, rfl⟩
abbrev uE (x : Inst) (b : Int) : PV := .fn (.func 214) [] [.ip (zm x), .ip [I b]]
abbrev fsL (x : Inst) (pl : PV) (b : Int) : List PV := [.fn (.func 215) [] [.ip [pl]], .fn (.func 217) [] [.ip [uE x b], .ip (zm x), .ip [pl]], .fn (.func 219) [] [.ip [uE x b], .ip [pl]], .fn (.func 220) [] [.ip (zm x), .ip [pl], .ip [uE x b]]]
set_option maxRecDepth 20000 in
theorem Zfi (x : Inst) (pl : PV) (b : Int) (hp : vV pl) : Pure Tryz.prog 180 [.agg (zm x), pl, I b] (.fn (.func 222) [] [.ip [.lst 4 (fsL x pl b)]]) := by
 rcases hp with rfl | ⟨n, cs, rfl⟩
 all_goals
  refine pwe Tryz.func180 Tryz.ntmps180 Tryz.results180 fun S nx hd => ?_
  repeat apply za
  refine pwn ?_
  intro v0 v1 v2
  refine xx 0 rfl ?_
  refine xx 1 rfl ?_
  refine xx 2 rfl ?_
  repeat apply za
  refine pwn ?_
  intro v3
  refine xx 3 rfl ?_
  repeat apply za
  refine pwn ?_
  intro v4
  refine xx 4 rfl ?_
  (repeat apply za); refine pwn ?_; intros
  repeat apply za
  exact zd (zg hd (by simp; rfl) rfl)
set_option maxRecDepth 20000 in
theorem Zfj (pl : PV) (d : Day) (hp : vV pl) (hA : Pure Tryz.prog 216 [pl] (.agg [L d])) : Pure Tryz.prog 215 [.ip [pl]] (.tup [.agg [L d], B true]) := by
 rcases hp with rfl | ⟨n, cs, rfl⟩
 all_goals
  refine pwe Tryz.func215 Tryz.ntmps215 Tryz.results215 fun S nx hd => ?_
  repeat apply za
  refine pwn ?_
  intro v0
  repeat apply za
  refine pwn ?_
  refine pwc hA ?_
  intros
  repeat apply za
  exact zd (zg hd (by simp; rfl) rfl)
set_option maxRecDepth 20000 in
theorem JF (x : Inst) (b : Int) (d e : Day) (n : Int) (hI : Pure Tryz.prog 76 [.agg (zm x), .agg [L d], I b] (.tup [.agg [L e], I n])) : Pure Tryz.prog 214 [.agg [L d], .ip (zm x), .ip [I b]] (.agg [L e]) := by
 refine pwe Tryz.func214 Tryz.ntmps214 Tryz.results214 fun S nx hd => ?_
 repeat apply za
 refine pwn ?_
 intro v0 v1
 repeat apply za
 refine pwn ?_
 refine pwc hI ?_
 intros
 (repeat apply za); refine pwn ?_; intros
 repeat apply za
 exact zd (zg hd (by simp; rfl) rfl)
set_option maxRecDepth 20000 in
theorem Zfk (x : Inst) (pl : PV) (b : Int) (d e : Day) (n : Int) (hp : vV pl) (hJ : Pure Tryz.prog 218 [.agg (zm x), pl] (.agg [L d])) (hI : Pure Tryz.prog 76 [.agg (zm x), .agg [L d], I b] (.tup [.agg [L e], I n])) : Pure Tryz.prog 217 [.ip [uE x b], .ip (zm x), .ip [pl]] (.tup [.agg [L e], B true]) := by
 have hF := JF x b d e n hI
 rcases hp with rfl | ⟨n, cs, rfl⟩
 all_goals
  refine pwe Tryz.func217 Tryz.ntmps217 Tryz.results217 fun S nx hd => ?_
  repeat apply za
  refine pwn ?_
  intro v0
  repeat apply za
  refine pwY (some []) (Row.pures [0, 1, 2, 3, 4] (.alt 5 (Row.pures [6] .done) .stop)) mixed trivial ?_
  refine pwP (hJ) trivial ?_
  refine pwP (hF) trivial ?_
  intros
  repeat apply za
  exact zd (zg hd (by simp; rfl) rfl)
set_option maxRecDepth 20000 in
theorem Zfl (x : Inst) (pl : PV) (b : Int) (d e : Day) (n : Int) (hp : vV pl) (hA : Pure Tryz.prog 216 [pl] (.agg [L d])) (hI : Pure Tryz.prog 76 [.agg (zm x), .agg [L d], I b] (.tup [.agg [L e], I n])) : Pure Tryz.prog 219 [.ip [uE x b], .ip [pl]] (.tup [.agg [L e], B true]) := by
 have hF := JF x b d e n hI
 rcases hp with rfl | ⟨n, cs, rfl⟩
 all_goals
  refine pwe Tryz.func219 Tryz.ntmps219 Tryz.results219 fun S nx hd => ?_
  repeat apply za
  refine pwn ?_
  intro v0
  repeat apply za
  refine pwY (some []) (Row.pures [0, 1, 2, 3] (.alt 4 (Row.pures [5] .done) .stop)) mixed trivial ?_
  refine pwP (hA) trivial ?_
  refine pwP (hF) trivial ?_
  intros
  repeat apply za
  exact zd (zg hd (by simp; rfl) rfl)
set_option maxRecDepth 20000 in
theorem Vn (x : Inst) (pl : PV) (b : Int) (d e : Day) (ok : Bool) (n : Int) (hp : vV pl) (hR : Pure Tryz.prog 221 [.agg (zm x), pl] (.tup [.agg [L d], B ok])) (hI : ok = true → Pure Tryz.prog 76 [.agg (zm x), .agg [L d], I b] (.tup [.agg [L e], I n])) :
  Pure Tryz.prog 220 [.ip (zm x), .ip [pl], .ip [uE x b]] (.tup [.agg [bif ok then L e else zJ], B ok]) := by
 rcases hp with rfl | ⟨n, cs, rfl⟩
 all_goals
  cases ok with
  | false =>
   refine pwe Tryz.func220 Tryz.ntmps220 Tryz.results220 fun S nx hd => ?_
   repeat apply za
   refine pwn ?_
   intro v0
   repeat apply za
   refine pwn ?_
   refine pwc hR ?_
   intro v1
   intros
   (repeat apply za); refine pwn ?_; intros
   repeat apply za
   refine zj rfl ?_
   (repeat apply za); refine pwn ?_; intros
   repeat apply za
   exact zd (zg hd (by simp; rfl) rfl)
  | true =>
   have hF := JF x b d e _ (hI rfl)
   refine pwe Tryz.func220 Tryz.ntmps220 Tryz.results220 fun S nx hd => ?_
   repeat apply za
   refine pwn ?_
   intro v0
   repeat apply za
   refine pwn ?_
   refine pwc hR ?_
   intro v1
   intros
   (repeat apply za); refine pwn ?_; intros
   repeat apply za
   refine zi rfl ?_
   refine zb ?_
   repeat apply za
   refine pwn ?_
   refine pwc hF ?_
   intros
   repeat apply za
   exact zd (zg hd (by simp; rfl) rfl)
set_option maxRecDepth 20000 in
theorem Zfm (fs : List PV) (rs : List (Option Day)) (hl : rs.length = fs.length) (hn : fs.length ≤ 1000)
  (h : ∀ (k : Nat) f, fs[k]? = some f → ∃ fk caps p, f = .fn (.func fk) [] caps ∧ Pure Tryz.prog fk caps (.tup [.agg [p], B (rs.getD k none).isSome]) ∧ ∀ d, rs.getD k none = some d → p = L d) :
  vK Tryz.prog 222 [.ip [.lst fs.length fs]] ((rs.filterMap id).map fun d => [.agg [L d]]) := by
 refine Yz Tryz.func222 (by rfl) rfl Tryz.ntmps222 (congrArg Array.toList Tryz.results222) (by simp) fun l V keep nx J hJd hY A0 hA0 => ?_
 (repeat apply za); refine pwn ?_; intros
 repeat apply za
 refine ze (qS (σ := Nat × Store) (fun s => s.1 ≤ fs.length ∧ J ((rs.take s.1).filterMap id).length s.2) (fun s => [(0, yld l), (7, .lst fs.length fs), (8, I fs.length), (9, I s.1)]) (fun s => s.2) (fun s => []) (fun s => fs.length - s.1) (zu (0, A0) [] (by simp [hA0]) (by simp) rfl (by simp)) ?_)
 rintro ⟨k, A⟩ ⟨hk, hJ⟩
 simp only at hk hJ ⊢
 (repeat apply za); refine pwn ?_; intros
 repeat apply za
 refine zk rfl (fun hc => ?_) (fun hc => ?_)
 ·simp at hc
  have e0 : fs.drop k = fs[k] :: fs.drop (k + 1) := List.drop_eq_getElem_cons hc
  obtain ⟨fk, caps, p, hf, hP, hd⟩ := h k fs[k] (List.getElem?_eq_getElem hc)
  rw [hf] at e0
  have hkr : k < rs.length := by omega
  have htk : rs.take (k + 1) = rs.take k ++ [rs[k]] := List.take_succ_eq_append_getElem hkr
  have hg : rs.getD k none = rs[k] := by rw [List.getD_eq_getElem?_getD, List.getElem?_eq_getElem hkr]; rfl
  rw [hg] at hP hd
  refine zb (za (ze ?_))
  repeat apply za
  refine pwN [] (jn2 e0 hc) ?_
  intros
  cases hr : rs[k] with
  | none =>
   rw [hr] at hP htk
   simp only [Option.isSome_none] at hP
   have hlen : ((rs.take (k + 1)).filterMap id).length = ((rs.take k).filterMap id).length := by rw [htk]; simp
   repeat apply za
   refine pwn ?_
   refine pwc hP ?_
   intro v0
   intros
   repeat apply za
   refine pwN [(1, 19)] zr ?_
   intros
   repeat apply za
   refine zi rfl ?_
   refine zb ?_
   (repeat apply za); refine pwn ?_; intros
   exact zh (k + 1, A) [_] ⟨hc, by rw [hlen]; exact hJ⟩ (by simp; omega) (by simp [wrN k (by omega)]) rfl (by simp; rfl)
  | some d =>
   obtain rfl := hd d hr
   rw [hr] at hP htk
   simp only [Option.isSome_some] at hP
   have hlen : ((rs.take (k + 1)).filterMap id).length = ((rs.take k).filterMap id).length + 1 := by rw [htk]; simp
   have hx : ((rs.filterMap id).map fun d => [PV.agg [L d]])[((rs.take k).filterMap id).length]? = some [PV.agg [L d]] := by
    have e1 : rs.filterMap id = (rs.take k).filterMap id ++ (d :: (rs.drop (k + 1)).filterMap id) := by
     conv => lhs; rw [← List.take_append_drop k rs, List.drop_eq_getElem_cons hkr, hr]
     simp
    rw [List.getElem?_map, e1, List.getElem?_append_right (Nat.le_refl _), Nat.sub_self]
    rfl
   repeat apply za
   refine pwn ?_
   refine pwc hP ?_
   intro v0
   intros
   repeat apply za
   refine zM [(1, 19)] (by rfl) (by rfl) fun K Gc Gh hK hGc hGh X hX0 hX => ?_
   simp -implicitDefEqProofs [hX0, hX]
   try clear hX0 hX X
   refine hGh _ _ _ _ _ fun hsuf => Zj rfl rfl rfl (hY _ _ _ _ hx hJ) ?_
   rintro _ ⟨A', hJ', rfl⟩
   refine ⟨_, _, rfl, ?_⟩
   clear hGc hGh
   clear Gc Gh
   refine zK hsuf (D := [(1, 19)]) (by rfl) fun Gc Gh hGc hGh X hX0 hX => ?_
   simp -implicitDefEqProofs [hX0, hX]
   try clear hX0 hX X
   intros
   refine hK _ _ _ ?_
   clear hK hGc hGh
   clear K Gc Gh
   repeat apply za
   refine zi rfl ?_
   refine zb ?_
   (repeat apply za); refine pwn ?_; intros
   exact zh (k + 1, A') [_] ⟨hc, by rw [hlen]; exact hJ'⟩ (by simp; omega) (by simp [wrN k (by omega)]) rfl (by simp; rfl)
 ·simp at hc
  obtain rfl : k = fs.length := by omega
  rw [← hl, List.take_length] at hJ
  refine zo (xJ (hJd _ _ hJ) rfl ?_)
  simpa using hJ
def qk (x : Inst) (st : Day × Int × Bool) (d : Day) : Day × Int × Bool := if zL x d = 0 then (if st.2.2 = false ∨ W (zA x d) < st.2.1 then (d, W (zA x d), true) else st) else st
def yX (x : Inst) (ds : List Day) : Day × Int × Bool := ds.foldl (qk x) ([], 0, false)
open Go Hp
theorem Zfn {K : (Nat → PV) → Store → Prop} {Q : Exit → (Nat → PV) → Store → Prop} {i : Nat} {F : Nat → PV} {S : Store} (h : Q (.exit i) F S) : wH K Q (.exit i) F S := h
theorem Zfo {Q : Exit → (Nat → PV) → Store → Prop} {i : Nat} {F : Nat → PV} {S : Store} (h : Q .normal F S) : yK i Q (.exit i) F S := by simp [yK, h]
def yY (x : Inst) (e : Int) (ds : List Day) : Day × Int := if e = 0 then (bif (yX x ds).2.2 then ((yX x ds).1, 0) else ([], 14)) else ([], e)
set_option maxRecDepth 20000 in
set_option maxHeartbeats 800000 in
theorem Vo (x : Inst) (pl : PV) (b e : Int) (ds : List Day) (hp : vV pl) (hx : x.cust.length ≤ 1048576) (hF : Pure Tryz.prog 179 [.agg (zm x), pl] (I e))
  (hit : e = 0 → vK Tryz.prog 222 [.ip [.lst 4 (fsL x pl b)]] (ds.map fun d => [.agg [L d]])) (hds : e = 0 → ∀ d ∈ ds, DayOk d ∧ d.flatten.length ≤ 1048576) :
  Pure Tryz.prog 130 [.agg (zm x), pl, I b] (.tup [.agg [L (yY x e ds).1], I (yY x e ds).2]) := by
 have hT := Zfi x pl b hp
 refine pwe Tryz.func130 Tryz.ntmps130 Tryz.results130 fun S nx hd => ?_
 repeat apply za
 refine pwn ?_
 intro v0 v1
 repeat apply za
 refine pwn ?_
 refine pwc hF ?_
 intros
 by_cases he : e = 0
 case neg =>
  (repeat apply za); refine pwn ?_; intros
  repeat apply za
  refine zj (by simp [he]) ?_
  (repeat apply za); refine pwn ?_; intros
  refine xI 1 0 rfl rfl ?_
  repeat apply za
  exact zd (zg hd (by simp; rfl) (by simp [yY, he, zl]))
 subst he
 have hit := hit rfl
 have hds := hds rfl
 (repeat apply za); refine pwn ?_; intros
 repeat apply za
 refine zi (by simp) ?_
 refine zb ?_
 repeat apply za
 refine pwn ?_
 intro v2 v3 v4
 refine xI 2 0 rfl rfl ?_
 repeat apply za
 refine pwn ?_
 refine pwc hT ?_
 intros
 repeat apply za
 refine ze (Zm (xs := ds.map fun d => [PV.agg [L d]]) (σ := Day × Int × Bool) (fun i s => s = (ds.take i).foldl (qk x) ([], 0, false) ∧ i ≤ ds.length) [(3, .ptr nx v0 0), (6, .ptr (nx + 1) v1 0), (7, I 0), (9, .ptr (nx + 2) v2 0), (10, .ptr (nx + 3) v3 0), (11, .ptr (nx + 4) v4 0)] (fun _ => S)
  (fun (best, least, found) => [.cells v0 25 (zm x), .cells v1 66 [zJ], .cells v2 66 [L best], .cells v3 3 [I least], .cells v4 4 [B found]]) ([], 0, false)
  hit rfl (by intro x hx; obtain ⟨y, _, rfl⟩ := List.mem_map.1 hx; rfl) (by decide) (by simp) ⟨by simp, by simp⟩ rfl (by simp) (by simp) ?_ ?_)
 ·rintro l i ⟨best, least, found⟩ more y ⟨hst, hi⟩ hy
  simp only at hst hi ⊢
  rw [List.getElem?_map] at hy
  obtain ⟨d, hd', rfl⟩ := Option.map_eq_some_iff.1 hy
  obtain ⟨hil, hdi⟩ := List.getElem?_eq_some_iff.1 hd'
  obtain ⟨hdo, hdf⟩ := hds d (List.mem_of_getElem? hd')
  have hday := Zdr x d hx hdo.1 hdo.2 hdf
  have hcost := Zdl x d hdo
  have hsucc : (ds.take (i + 1)).foldl (qk x) ([], 0, false) = qk x (best, least, found) d := by
   rw [List.take_succ_eq_append_getElem hil, hdi, List.foldl_append, ← hst]; rfl
  unfold qk at hsucc
  simp only at hsucc
  repeat apply za
  refine pwn ?_
  intro v5
  refine ze ?_
  repeat apply za
  refine pwn ?_
  refine pwc hday ?_
  intros
  by_cases h1 : zL x d = 0
  ·rw [if_pos h1] at hsucc
   repeat apply za
   refine zi (by simp [h1]) ?_
   refine zb ?_
   repeat apply za
   refine pwn ?_
   refine pwc hcost ?_
   intros
   generalize W (zA x d) = c at *
   cases found with
   | false =>
    rw [if_pos (.inl rfl)] at hsucc
    repeat apply za
    refine pwN [(2, 36)] zr ?_
    intros
    repeat apply za
    refine zj rfl ?_
    (repeat apply za); refine pwn ?_; intros
    simp only [yK]
    exact jN (d, c, true) [_] ⟨hsucc.symm, by omega⟩ rfl (by simp; rfl)
   | true =>
    by_cases h2 : c < least
    ·rw [if_pos (.inr h2)] at hsucc
     repeat apply za
     refine pwN [(2, 36)] (jn2 h2 zr) ?_
     intros
     repeat apply za
     refine zj rfl ?_
     (repeat apply za); refine pwn ?_; intros
     simp only [yK]
     exact jN (d, c, true) [_] ⟨hsucc.symm, by omega⟩ rfl (by simp; rfl)
    ·rw [if_neg (by simp [h2])] at hsucc
     repeat apply za
     refine pwN [(2, 36)] (jn2 h2 zr) ?_
     intros
     repeat apply za
     refine zi rfl ?_
     refine zb ?_
     simp only [yK]
     exact jN (best, least, true) [_] ⟨hsucc.symm, by omega⟩ rfl (by simp; rfl)
  ·rw [if_neg h1] at hsucc
   repeat apply za
   refine zj (by simp [h1]) ?_
   refine zo ?_
   refine Zfn (Zfo ?_)
   exact jN (best, least, found) [_] ⟨hsucc.symm, by omega⟩ rfl (by simp; rfl)
 ·rintro ⟨best, least, found⟩ ⟨hst, -⟩
  simp only [List.length_map, List.take_length] at hst ⊢
  have hz : yX x ds = (best, least, found) := hst.symm
  cases found with
  | false =>
   (repeat apply za); refine pwn ?_; intros
   repeat apply za
   refine zj rfl ?_
   (repeat apply za); refine pwn ?_; intros
   refine xI 1 0 rfl rfl ?_
   repeat apply za
   exact zd (zg hd (by simp; rfl) (by simp [yY, hz, zl]))
  | true =>
   (repeat apply za); refine pwn ?_; intros
   repeat apply za
   refine zi rfl ?_
   refine zb ?_
   (repeat apply za); refine pwn ?_; intros
   repeat apply za
   exact zd (zg hd (by simp; rfl) (by simp [yY, hz, zl]))
open Go Hp
set_option maxRecDepth 20000 in
theorem Vp (lk : List PV) (s : Stop) (hl : lk.length = 13) : Pure Tryz.prog 108 [.agg lk, .agg [I s.c, I s.q]] (.fn (.func 147) [] [.ip [I s.c, I s.q], .ip lk]) := by
 refine pwe Tryz.func108 Tryz.ntmps108 Tryz.results108 fun S nx hd => ?_
 repeat apply za
 refine pwN [] hl ?_
 intro v0 v1
 (repeat apply za); refine pwn ?_; intros
 refine xx 0 rfl ?_
 refine xx 1 rfl ?_
 repeat apply za
 exact zd (zg hd (by simp; rfl) rfl)
open Go Go.Lib Go.Proofs
theorem vX : ElemOk Tryz.prog 46 50 (.agg #[.int .i64 0, .int .i64 0]) 16 :=
 ⟨Tryz.underlying46, by simp, by simp, by simp, by simp, by omega⟩
set_option maxHeartbeats 4000000 in
set_option maxRecDepth 100000 in
theorem Vq (a : Addr) (n c : Nat) (w W2 : World) (u : Value) (hrz : ∀ ty, (Builtin.append_ #[46, 46] ty #[.slice (some ⟨w.heap.size, 0, none⟩) 0 0, .slice (some a) n c]).run Tryz.prog (w.alloc (.cells #[] 50)) = .ok u W2) :
  Calls Tryz.prog 114 #[.slice (some a) n c] w fun e w' => e = .returned u ∧ w' = W2 := by
 have mixed : Tryz.prog.follows .mixedOrders = true := by kernel_rfl
 have q22 : ∀ (w : World) (a : Option Addr) (n c n' c' : Nat), (binOp .eql 46 (.slice a n c) (.slice none n' c')).run Tryz.prog w = .ok (.bool a.isNone) w := fun w a n c n' c' => Lib.run_eql_slice_nil w _ _ a n c n' c' Tryz.underlying46
 go_enter Tryz.func114, Tryz.ntmps114
 go_wp2_with (at_builtin; refine Lib.wpList_append_run _ rfl _ _ _ _ rfl _ _ rfl rfl _ _ (hrz _) ?_)
 go_wp2
 go_ret
 exact ⟨rfl, rfl⟩
set_option maxHeartbeats 4000000 in
set_option maxRecDepth 100000 in
theorem Zfp (n c : Nat) (w : World) :
  Calls Tryz.prog 114 #[.slice none n c] w fun e w' => e = .returned (.slice none 0 0) ∧ w' = w := by
 have mixed : Tryz.prog.follows .mixedOrders = true := by kernel_rfl
 have q22 : ∀ (w : World) (a : Option Addr) (n c n' c' : Nat), (binOp .eql 46 (.slice a n c) (.slice none n' c')).run Tryz.prog w = .ok (.bool a.isNone) w := fun w a n c n' c' => Lib.run_eql_slice_nil w _ _ a n c n' c' Tryz.underlying46
 go_enter Tryz.func114, Tryz.ntmps114
 go_wp2
 go_ret
 exact ⟨rfl, rfl⟩
theorem JG (l : List Stop) (h0 : 0 < l.length) (hn : l.length ≤ 1048576) (S : Store) (nx : Nat) (hd : S nx = .dead) :
  Spec Tryz.prog 114 [L l] S (fun p S' => ∃ v, p = .sl nx v 2 0 l.length ∧ S' = S.set nx (.cells v 50 (l.flatMap Enc.enc))) := by
 refine ⟨yG Tryz.func114 (by rfl) rfl, ?_⟩
 intro C w vs hS hl hr
 obtain ⟨u, rfl⟩ := Je hl
 have hu : Rel C S w (.lst l.length (l.flatMap Enc.enc)) u := hr 0 _ u rfl rfl
 obtain ⟨a, cap, rfl⟩ : ∃ a cap, u = .slice (some a) l.length cap := by
  generalize hq : l.flatMap Enc.enc = cs at hu
  generalize l.length = n at *
  cases hu with
  | lst0 => omega
  | lst1 => exact ⟨_, _, rfl⟩
 obtain ⟨k1, j1, m1⟩ := hS.alloc (.cells #[] 50)
 have hc : Tryz.prog.cellsOf 50 = 2 := by simp
 obtain ⟨news, hsrc, hrel, _⟩ := Yo (P := Tryz.prog) (sz := 2) (m := l.length) (ds := l.flatMap Enc.enc) k1 (by simp [wJ]) (hu.mono j1)
 rw [← hc] at hsrc
 have hrun := fun ty => Yn (P := Tryz.prog) (ty := ty) (b := some ⟨w.heap.size, 0, none⟩) (k := 0) (cap := 0) (olds := []) vX.ty vX.pos vX.zero vX.bytes hsrc (run_firstCells_some _ _ 0 ⟨w.heap.size, 0, none⟩ 0 0 [] (by simp) (by simp)) (by omega) (by omega) vX.bpos
 simp only [Nat.zero_add] at hrun
 refine (Vq a l.length cap w _ _ hrun).mono ?_
 rintro e w' ⟨rfl, rfl⟩
 have hge := grownCap_ge (w.alloc (.cells #[] 50)) l.length 0 50
 obtain ⟨d1, d2⟩ := k1.drew
 have hfr : Fresh C S nx C.clock := .clock C hd
 have hra := um (cs := []) (vs := []) (by simp [RelL]) hrel (Builtin.zeroCells (Value.agg #[.int .i64 0, .int .i64 0]).cells (grownCap (w.alloc (.cells #[] 50)) l.length 0 50 - l.length)).toList
 simp only [List.nil_append] at hra
 have hget : ∀ i : Nat, (([] : List Value).toArray ++ news.toArray ++ Builtin.zeroCells (Value.agg #[.int .i64 0, .int .i64 0]).cells (grownCap (w.alloc (.cells #[] 50)) l.length 0 50 - l.length) : Array Value)[i]? = (news ++ (Builtin.zeroCells (Value.agg #[.int .i64 0, .int .i64 0]).cells (grownCap (w.alloc (.cells #[] 50)) l.length 0 50 - l.length)).toList)[i]? := by
  intro i; rw [← Array.getElem?_toList]; simp
 obtain ⟨t1, t2⟩ := d1.object' hfr 50 (([] : List Value).toArray ++ news.toArray ++ Builtin.zeroCells (Value.agg #[.int .i64 0, .int .i64 0]).cells (grownCap (w.alloc (.cells #[] 50)) l.length 0 50 - l.length)) (l.flatMap Enc.enc) (by have := hra.1; simp at this ⊢; omega) (fun i v hi hv => hra.2.1 i v hi (by rw [← hget]; exact hv)) (fun i p v hp hv => (hra.2.2 i p v hp (by rw [← hget]; exact hv)).mono d2)
 refine ⟨_, _, _, _, rfl, ⟨C.clock, rfl, rfl⟩, Zd C S _ _ _ _ _ _ _ _ _ rfl hge (Nat.le_trans hn (by unfold qz; omega)) (grownCap_le_maxLen _ _ _ _ (by unfold maxLen; omega)) ?_, t1, j1.trans (d2.trans t2)⟩
 have := hsrc.size
 simp only [Array.size_append, size_zeroCells, List.size_toArray, this, hc]
 simp [Value.cells]
 omega
theorem YY (l : List Stop) (hn : l.length ≤ 1048576) : Pure Tryz.prog 114 [L l] (L l) := by
 by_cases h0 : 0 < l.length
 ·exact Yw 0 (fun S nx hd => JG l h0 hn S nx (hd nx (Nat.le_refl _))) (by simp)
 ·obtain rfl : l = [] := List.eq_nil_of_length_eq_zero (by omega)
  intro S
  refine ⟨yG Tryz.func114 (by rfl) rfl, ?_⟩
  intro C w vs hS hl hr
  obtain ⟨u, rfl⟩ := Je hl
  have hu : Rel C S w (.lst 0 []) u := hr 0 _ u rfl rfl
  obtain ⟨a, cap, rfl⟩ : ∃ a cap, u = .slice a 0 cap := by
   cases hu with
   | lst0 => exact ⟨_, _, rfl⟩
   | lst1 => exact ⟨_, _, rfl⟩
  cases a with
  | none =>
   refine (Zfp 0 cap w).mono ?_
   rintro e w' ⟨rfl, rfl⟩
   exact ⟨_, _, _, _, rfl, ⟨rfl, rfl⟩, .lst0, hS, .refl _ _ _⟩
  | some a =>
   obtain ⟨k1, j1, m1⟩ := hS.alloc (.cells #[] 50)
   have hc : Tryz.prog.cellsOf 50 = 2 := by simp
   obtain ⟨news, hsrc, hrel, _⟩ := Yo (P := Tryz.prog) (sz := 2) (m := 0) (ds := []) k1 (by simp [wJ]) (hu.mono j1)
   have hne : news = [] := List.eq_nil_of_length_eq_zero (by rw [hsrc.size, Nat.zero_mul])
   subst hne
   rw [← hc] at hsrc
   have hrun := fun ty => QN (P := Tryz.prog) (ty := ty) (b := some ⟨w.heap.size, 0, none⟩) (k := 0) (cap := 0) vX.ty vX.pos hsrc (Nat.le_refl 0)
   refine (Vq a 0 cap w _ _ hrun).mono ?_
   rintro e w' ⟨rfl, rfl⟩
   exact ⟨_, _, _, _, rfl, ⟨rfl, rfl⟩, .lst0, k1, j1⟩
set_option maxRecDepth 20000 in
theorem Zfq {S : Store} {id ver : Nat} (cs : List Stop) (s : Stop) (hn : cs.length ≤ 1000000) (hid : S id = .cells ver 50 (cs.flatMap Enc.enc)) :
  Spec Tryz.prog 111 [.sl id ver 2 0 cs.length, I cs.length, L [s]] S (fun p S' => p = .sl id (ver + 1) 2 0 (cs.length + 1) ∧ S' = S.set id (.cells (ver + 1) 50 ((cs ++ [s]).flatMap Enc.enc))) := by
 refine jm Tryz.func111 Tryz.ntmps111 Tryz.results111 fun nx hd => ?_
 have hlt : id < nx := by
  rcases Nat.lt_or_ge id nx with h | h
  ·exact h
  ·have := hd id h; rw [hid] at this; cases this
 have hx := fun obs => (zx (S := S) (obs := obs) hlt).trans hid
 have hlt1 : ¬ nx ≤ id := by omega
 repeat apply za
 refine pwN [] hx ?_
 intros
 repeat apply za
 refine pwN [] hx ?_
 intros
 repeat apply za
 refine pwN [] hx ?_
 intros
 repeat apply za
 refine pwN [] hx ?_
 intros
 repeat apply za
 refine zi rfl ?_
 refine zb ?_
 repeat apply za
 refine pwN [] hx ?_
 intros
 repeat apply za
 refine pwN [] hx ?_
 intros
 repeat apply za
 refine zj rfl ?_
 repeat apply za
 refine pwN [] (jn2 hx hlt1) ?_
 refine ⟨by omega, ?_⟩
 intros
 repeat apply za
 have hdd : ∀ (o : Ob), zF nx (S.set id o) := by
  intro o q hq
  rw [Store.set_other _ _ _ _ (by omega)]
  exact hd q hq
 exact zd ⟨_, _, by simp; rfl, ⟨by simp [zl], by simp⟩, yg (hdd _)⟩
theorem Zfr {S : Store} {id ver : Nat} (cs : List Stop) (i : Nat) (s : Stop) (hi : i ≤ cs.length) (hn : cs.length ≤ 1000000) (hid : S id = .cells ver 50 (cs.flatMap Enc.enc)) :
  Spec Tryz.prog 111 [.sl id ver 2 0 cs.length, I i, L [s]] S (fun p S' => p = .sl id (ver + 1) 2 0 (cs.length + 1) ∧ S' = S.set id (.cells (ver + 1) 50 ((cs.take i ++ s :: cs.drop i).flatMap Enc.enc))) := by
 by_cases h : i = cs.length
 ·subst h
  rw [List.take_length, List.drop_length]
  exact Zfq cs s hn hid
 ·exact Zdi cs i s (by omega) hn hid
open Go Go.Proofs
def vY (d : Day) (t nx : Nat) (k : Nat) (ts : List PV) (ob : Ob) : Prop :=
 ts.length = k ∧ (k ≤ t → ts = (d.take k).flatMap Enc.enc ∧ ob = .dead) ∧
 (t < k → ∃ v l, d[t]? = some l ∧ ts = ((d.take k).flatMap Enc.enc).set t (.sl (nx + 4) v 2 0 l.length) ∧ ob = .cells v 50 (l.flatMap Enc.enc))
theorem Zfs {d : Day} {t nx k : Nat} {ts : List PV} {ob : Ob} (h : vY d t nx k ts ob) (hk : k < d.length) (ht : k ≠ t) : vY d t nx (k + 1) (ts ++ [L d[k]]) ob := by
 obtain ⟨h1, h2, h3⟩ := h
 have e : d.take (k + 1) = d.take k ++ [d[k]] := List.take_succ_eq_append_getElem hk
 refine ⟨by simp [h1], fun hkt => ?_, fun hkt => ?_⟩
 ·obtain ⟨a, b⟩ := h2 (by omega)
  exact ⟨by rw [e, a, List.flatMap_append]; rfl, b⟩
 ·obtain ⟨v, l, a, b, c⟩ := h3 (by omega)
  refine ⟨v, l, a, ?_, c⟩
  rw [b, e, List.flatMap_append, List.set_append_left _ _ (by rw [yD]; simp; omega)]
  rfl
theorem Zft {d : Day} {t nx : Nat} {ts : List PV} {ob : Ob} (h : vY d t nx t ts ob) (hk : t < d.length) (v : Nat) : vY d t nx (t + 1) (ts ++ [.sl (nx + 4) v 2 0 d[t].length]) (.cells v 50 (d[t].flatMap Enc.enc)) := by
 obtain ⟨h1, h2, h3⟩ := h
 have e : d.take (t + 1) = d.take t ++ [d[t]] := List.take_succ_eq_append_getElem hk
 refine ⟨by simp [h1], fun hkt => by omega, fun _ => ⟨v, d[t], List.getElem?_eq_getElem hk, ?_, rfl⟩⟩
 obtain ⟨a, -⟩ := h2 (Nat.le_refl _)
 have hl : ((d.take t).flatMap Enc.enc).length = t := by rw [yD]; simp; omega
 rw [a, e, List.flatMap_append, List.set_append_right _ _ (by omega), hl, Nat.sub_self]
 rfl
set_option maxRecDepth 20000 in
set_option maxHeartbeats 800000 in
theorem JH (d : Day) (t : Nat) (hd0 : d.length ≤ 1048576) (hd1 : ∀ l ∈ d, l.length ≤ 1048576) (ht : ∀ l, d[t]? = some l → 0 < l.length) (S : Store) (nx : Nat) (hd : zF nx S) :
  Spec Tryz.prog 109 [.agg [L d]] S (fun p S' => ∃ v ts ob, vY d t nx d.length ts ob ∧ p = .agg [.sl (nx + 3) v 1 0 d.length] ∧ S' = (S.set (nx + 3) (.cells v 72 ts)).set (nx + 4) ob) := by
 refine vM hd Tryz.func109 Tryz.ntmps109 Tryz.results109 ?_
 repeat apply za
 refine pwn ?_
 intro v0 v1
 repeat apply za
 refine pwn ?_
 intro v2
 refine yN 2 0 72 1 rfl rfl fun v3 => ?_
 (repeat apply za); refine pwn ?_; intros
 show PW _ _ _ _ _ _ _ (ext _ _ _)
 rw [YA 1]
 repeat apply za
 refine ze (zq (fun (s : Nat × List PV × Ob × Nat × Nat) => s.1 ≤ d.length ∧ vY d t nx s.1 s.2.1 s.2.2.1) (fun (k, ts, ob, v2, v3) => [(2, .ptr (nx + 1) v1 0), (3, .ptr (nx + 2) v2 0), (7, L d), (8, I d.length), (9, I k)]) (fun (k, ts, ob, v2, v3) => [.cells v0 66 [L d], .cells v1 66 [zJ], .cells v2 66 [.sl (nx + 3) v3 1 0 k], .cells v3 72 ts, ob]) (fun s => d.length - s.1) (0, [], .dead, v2, v3) [] ⟨by simp, by simp [vY]⟩ (by simp) (by simp) ?_)
 rintro ⟨k, ts, ob, v2, v3⟩ ⟨hk, hI⟩
 simp only at hk hI ⊢
 have htl := hI.1
 have htk : ts.take k = ts := List.take_of_length_le (by omega)
 (repeat apply za); refine pwn ?_; intros
 repeat apply za
 refine zk rfl (fun hc => ?_) (fun hc => ?_)
 ·simp at hc
  obtain ⟨l, tl, a1, a2, a3, e0⟩ := el1 rfl d k hc
  obtain ⟨hkl, rfl⟩ := List.getElem?_eq_some_iff.1 a1
  have hk1 : 1 ≤ d.length - k := by omega
  refine zb (za (ze ?_))
  repeat apply za
  refine pwN [] (jn3 hc e0 hk1) ?_
  intro v5
  by_cases hkt : k = t
  ·subst hkt
   have hcl := JG d[k] (ht _ a1) (hd1 _ (List.getElem_mem hkl))
   obtain rfl := (hI.2.1 (Nat.le_refl _)).2
   repeat apply za
   refine xH (some [nx + 5]) (Row.pures [0, 2, 3] (.alt 1 (.alt 4 (Row.pures [5, 6] (.alt 7 (Row.pures [8] (.alt 9 (.done) .stop)) .stop)) .stop) (.alt 4 (Row.pures [5, 6] (.alt 1 (.alt 7 (Row.pures [8] (.alt 9 (.done) .stop)) .stop) .stop)) .stop))) mixed (by rfl) (by rfl) (by rfl) fun K Gp Gc Gh hK hGp hGc hGh X hX0 hX1 hX2 hX => ?_
   simp -implicitDefEqProofs [hX0, hX1, hX2, hX, htl, htk]
   try clear hX0 hX1 hX2 hX X
   refine ⟨?_, ?_⟩
   all_goals
    refine hGc _ _ _ _ _ _ _ ?_
    refine ((hcl _ (nx + 4) (by simp)).mono ?_).v
    rintro _ _ ⟨v4, rfl, rfl⟩
    rw [qg _ (by omega) (by simp), Nat.add_sub_cancel_left]
    refine ⟨by simp [zV], ?_⟩
    clear hGp hGc hGh
    clear Gp Gc Gh
    refine qQ fun Gp Gc Gh hGp hGc hGh X hX0 hX1 hX2 hX => ?_
    simp -implicitDefEqProofs [hX0, hX1, hX2, hX, htl, htk]
    try clear hX0 hX1 hX2 hX X
    refine ⟨by omega, ?_⟩
    refine hK _ _ _ ?_
    clear hK hGp hGc hGh
    clear K Gp Gc Gh
    (repeat apply za); refine pwn ?_; intros
    exact zh (k + 1, _, _, v2, v3 + 1) [_] ⟨hc, Zft hI hkl v4⟩ (by simp; omega) (by simp [wrN k (by omega)]) rfl (by simp; rfl)
  ·have hcl := YY d[k] (hd1 _ (List.getElem_mem hkl))
   repeat apply za
   refine pwY (some [nx + 5]) (Row.pures [0, 2, 3, 4, 5, 6] (.alt 1 (.alt 7 (Row.pures [8] (.alt 9 (.done) .stop)) .stop) .stop)) mixed (jn2 htl htk) ?_
   refine pwP (hcl) (jn2 htl htk) ?_
   refine ⟨by omega, ?_⟩
   intros
   (repeat apply za); refine pwn ?_; intros
   exact zh (k + 1, _, _, v2, v3 + 1) [_] ⟨hc, Zfs hI hkl hkt⟩ (by simp; omega) (by simp [wrN k (by omega)]) rfl (by simp; rfl)
 ·simp at hc
  obtain rfl : k = d.length := by omega
  refine zo ?_
  (repeat apply za); refine pwn ?_; intros
  repeat apply za
  refine zd ⟨_, (S.set (nx + 3) (.cells v3 72 ts)).set (nx + 4) ob, by simp; rfl, ⟨v3, ts, ob, hI, rfl, rfl⟩, ?_⟩
  intro o
  by_cases h4 : o = nx + 4
  ·subst h4
   exact .inl (by rw [Store.set_same]; simp)
  by_cases h3 : o = nx + 3
  ·subst h3
   exact .inl (by rw [Store.set_other _ _ _ _ h4, Store.set_same]; simp)
  rw [Store.set_other _ _ _ _ h4, Store.set_other _ _ _ _ h3]
  exact yg hd o
theorem Zfu (d : Day) (hd0 : d.length ≤ 1048576) (hd1 : ∀ l ∈ d, l.length ≤ 1048576) : Pure Tryz.prog 109 [.agg [L d]] (.agg [L d]) := by
 refine Zcq (k := d.length) (sz := 1) (e := 72) (cs := d.flatMap Enc.enc) 3 (fun S nx hd => (JH d d.length hd0 hd1 (by simp) S nx hd).mono ?_) (by simp)
 rintro _ _ ⟨v, ts, ob, ⟨h1, h2, -⟩, rfl, rfl⟩
 obtain ⟨rfl, rfl⟩ := h2 (Nat.le_refl _)
 rw [List.take_length]
 refine ⟨v, rfl, ?_⟩
 funext o
 by_cases h4 : o = nx + 4
 ·subst h4
  rw [Store.set_same, Store.set_other _ _ _ _ (by omega), hd _ (by omega)]
 ·rw [Store.set_other _ _ _ _ h4]
theorem Zfv (d : Day) (t : Nat) (l : zn) (hd0 : d.length ≤ 1048576) (hd1 : ∀ l ∈ d, l.length ≤ 1048576) (ht : d[t]? = some l) (hl : 0 < l.length) (S : Store) (nx : Nat) (hd : zF nx S) :
  Spec Tryz.prog 109 [.agg [L d]] S (fun p S' => ∃ v w, p = .agg [.sl (nx + 3) v 1 0 d.length] ∧
   S' = (S.set (nx + 3) (.cells v 72 ((d.flatMap Enc.enc).set t (.sl (nx + 4) w 2 0 l.length)))).set (nx + 4) (.cells w 50 (l.flatMap Enc.enc))) := by
 refine (JH d t hd0 hd1 (fun m hm => by rw [ht] at hm; cases hm; exact hl) S nx hd).mono ?_
 rintro _ _ ⟨v, ts, ob, ⟨h1, -, h3⟩, rfl, rfl⟩
 obtain ⟨w, m, hm, rfl, rfl⟩ := h3 (List.getElem?_eq_some_iff.1 ht).1
 rw [ht] at hm; cases hm
 rw [List.take_length]
 exact ⟨v, w, rfl, rfl⟩
open Go Go.Proofs
def yP (x : Inst) (t : zn) : Int := W (zB x (t.map (·.c)))
def yQ (t : zn) : Int := W (zt t)
def zW (x : Inst) (d : Day) : Nat := (d.filter fun t => decide (zp x t ≠ 0)).length
theorem Zfw (x : Inst) (d e : Day) : zW x (d ++ e) = zW x d + zW x e := by simp [zW]
theorem Zfx (x : Inst) (t : zn) : zW x [t] = if zp x t = 0 then 0 else 1 := by
 by_cases h : zp x t = 0 <;> simp [zW, h]
theorem Vr (x : Inst) (d : Day) : zW x d ≤ d.length := List.length_filter_le _ _
abbrev xM (x : Inst) (d : Day) : List PV := [I x.days, I x.veh, I x.cap, I x.len, L x.cust, L x.dist, L d, L (zQ (d.flatten.map (·.c))), B (decide (¬ (zQ (d.flatten.map (·.c))).Nodup)), L (d.map (zp x)), I (zW x d), L (d.map yQ), L (d.map (yP x))]
set_option maxRecDepth 20000 in
set_option maxHeartbeats 1600000 in
theorem Vs (x : Inst) (d : Day) (hx : x.cust.length ≤ 1048576) (hdo : DayOk d) (hf : d.flatten.length ≤ 1048576) : Pure Tryz.prog 107 [.agg (zm x), .agg [L d]] (.agg (xM x d)) := by
 have h1 := WL d hdo.1 hf
 have h2 := WR d.flatten hf
 have h3 := WQ (zQ (d.flatten.map (·.c))) (by rw [wL, List.length_map]; exact hf) (vQ _)
 generalize hon : zQ (d.flatten.map (·.c)) = on at *
 generalize htw : decide (¬ on.Nodup) = tw at *
 refine pwe Tryz.func107 Tryz.ntmps107 Tryz.results107 fun S nx hd => ?_
 repeat apply za
 refine pwn ?_
 intro v0 v1 v2
 repeat apply za
 refine pwY (some [nx, nx + 1]) (Row.pures [0, 1, 2, 3, 4, 5] (.alt 6 (.alt 7 (.done) .stop) .stop)) mixed trivial ?_
 refine pwP (h1) trivial ?_
 refine pwP (h2) trivial ?_
 intro v3
 intros
 repeat apply za
 refine pwn ?_
 refine pwc h3 ?_
 intros
 (repeat apply za); refine pwn ?_; intros
 refine yN 3 9 30 1 rfl rfl fun v4 => ?_
 refine yN 3 11 3 1 rfl rfl fun v5 => ?_
 refine yN 3 12 3 1 rfl rfl fun v6 => ?_
 repeat apply za
 refine ze (zq (fun (k, v4, v5, v6) => k ≤ d.length) (fun (k, v4, v5, v6) => [(2, .ptr nx v0 0), (4, .ptr (nx + 2) v2 0), (5, .ptr (nx + 3) v3 0), (20, L d), (21, I d.length), (22, I k)])
  (fun (k, v4, v5, v6) => [.cells v0 25 (zm x), .cells v1 66 [L d], .cells v2 149 [I 0, I 0, I 0, I 0, zJ, zJ, zJ, zJ, B false, zJ, I 0, zJ, zJ],
   .cells v3 149 [I x.days, I x.veh, I x.cap, I x.len, L x.cust, L x.dist, L d, L on, B tw, .sl (nx + 4) v4 1 0 k, I (zW x (d.take k)), .sl (nx + 5) v5 1 0 k, .sl (nx + 6) v6 1 0 k],
   .cells v4 30 (((d.map (zp x)).take k).flatMap Enc.enc), .cells v5 3 (((d.map yQ).take k).flatMap Enc.enc), .cells v6 3 (((d.map (yP x)).take k).flatMap Enc.enc)]) (fun s => d.length - s.1) (0, v4, v5, v6) [] (by simp) (by simp) (by simp [zW]) ?_)
 rintro ⟨k, v4, v5, v6⟩ hk
 simp only at hk ⊢
 (repeat apply za); refine pwn ?_; intros
 repeat apply za
 refine zk rfl (fun hc => ?_) (fun hc => ?_)
 ·simp at hc
  obtain ⟨t, tl, a1, a2, a3, e0⟩ := el1 rfl d k hc
  have hk1 : 1 ≤ d.length - k := by omega
  have htm := List.mem_of_getElem? a1
  have hm := Zu x t hx (hdo.t t htm)
  have hl := WK t (hdo.t t htm)
  have hw := Zs x t (hdo.t t htm) (hdo.s t htm)
  have b1 : zW x (d.take (k + 1)) = zW x (d.take k) + if zp x t = 0 then 0 else 1 := by rw [a3, Zfw, Zfx]
  have b2 := Vr x (d.take k)
  rw [List.length_take] at b2
  have b3 := hdo.n
  have b4 := Nat.min_le_left k d.length
  have f1 : (((d.map (zp x)).take (k + 1)).flatMap Enc.enc : List PV) = ((d.map (zp x)).take k).flatMap Enc.enc ++ [I (zp x t)] := by rw [← List.map_take, ← List.map_take, a3]; simp
  have f2 : (((d.map yQ).take (k + 1)).flatMap Enc.enc : List PV) = ((d.map yQ).take k).flatMap Enc.enc ++ [I (W (zt t))] := by rw [← List.map_take, ← List.map_take, a3]; simp [yQ]
  have f3 : (((d.map (yP x)).take (k + 1)).flatMap Enc.enc : List PV) = ((d.map (yP x)).take k).flatMap Enc.enc ++ [I (W (zB x (t.map (·.c))))] := by rw [← List.map_take, ← List.map_take, a3]; simp [yP]
  have l1 : (((d.map (zp x)).take k).flatMap Enc.enc : List PV).length = k := by rw [qn, List.length_take, List.length_map]; omega
  have l2 : (((d.map yQ).take k).flatMap Enc.enc : List PV).length = k := by rw [qn, List.length_take, List.length_map]; omega
  have l3 : (((d.map (yP x)).take k).flatMap Enc.enc : List PV).length = k := by rw [qn, List.length_take, List.length_map]; omega
  generalize ((d.map (zp x)).take k).flatMap Enc.enc = c1 at *
  generalize ((d.map yQ).take k).flatMap Enc.enc = c2 at *
  generalize ((d.map (yP x)).take k).flatMap Enc.enc = c3 at *
  have t1 : c1.take k = c1 := List.take_of_length_le (by omega)
  have t2 : c2.take k = c2 := List.take_of_length_le (by omega)
  have t3 : c3.take k = c3 := List.take_of_length_le (by omega)
  generalize zW x (d.take k) = bn at *
  have wb : IntKind.i64.wrap ((bn : Int) + 1) = ((bn + 1 : Nat) : Int) := wrN bn (by omega)
  generalize zp x t = mt at *
  generalize W (zt t) = lt at *
  generalize W (zB x (t.map (·.c))) = wt at *
  refine zb (za (ze ?_))
  repeat apply za
  refine pwN [] (jn3 hc e0 hk1) ?_
  intro v7
  repeat apply za
  refine pwn ?_
  refine pwc hm ?_
  intros
  (repeat apply za); refine pwn ?_; intros
  repeat apply za
  refine yc (nx := nx) (fun _ : Unit => True) (fun _ => [(2, .ptr nx v0 0), (4, .ptr (nx + 2) v2 0), (5, .ptr (nx + 3) v3 0), (7, .ptr (nx + 7) v7 0), (8, I mt), (20, L d), (21, I d.length), (22, I k)]) (fun _ => S) (fun _ => [.cells v0 25 (zm x), .cells v1 66 [L d], .cells v2 149 [I 0, I 0, I 0, I 0, zJ, zJ, zJ, zJ, B false, zJ, I 0, zJ, zJ],
   .cells v3 149 [I x.days, I x.veh, I x.cap, I x.len, L x.cust, L x.dist, L d, L on, B tw, .sl (nx + 4) v4 1 0 k, I (bn + (if mt = 0 then 0 else 1) : Nat), .sl (nx + 5) v5 1 0 k, .sl (nx + 6) v6 1 0 k],
   .cells v4 30 c1, .cells v5 3 c2, .cells v6 3 c3, .cells v7 72 [L t]]) ?_ ?_
  ·repeat apply za
   refine zk rfl (fun hq => ?_) (fun hq => ?_)
   ·simp at hq
    rw [if_neg hq]
    repeat apply za
    refine pwN [] wb ?_
    intros
    exact zu () [] trivial (by simp) rfl (by simp)
   ·simp at hq
    rw [if_pos hq]
    refine zb ?_
    exact zu () [] trivial (by simp) rfl (by simp)
  ·rintro ⟨⟩ -
   repeat apply za
   refine pwN [] (jn2 t1 l1) ?_
   refine ⟨by omega, ?_⟩
   intros
   repeat apply za
   refine pwY (some [nx + 7]) (Row.pures [0, 2, 3, 4] (.alt 1 (.alt 5 (Row.pures [6] (.alt 7 (.done) .stop)) .stop) .stop)) mixed (jn2 t2 l2) ?_
   refine pwP (hl) (jn2 t2 l2) ?_
   refine ⟨by omega, ?_⟩
   intros
   repeat apply za
   refine pwY (some [nx, nx + 7]) (Row.pures [0, 2, 3, 4, 5] (.alt 1 (.alt 6 (Row.pures [7] (.alt 8 (.done) .stop)) .stop) .stop)) mixed (jn2 t3 l3) ?_
   refine pwP (hw) (jn2 t3 l3) ?_
   refine ⟨by omega, ?_⟩
   intros
   (repeat apply za); refine pwn ?_; intros
   exact zh (k + 1, v4 + 1, v5 + 1, v6 + 1) [_] (by simp; omega) (by simp; omega) (by simp [wrN k (by omega)]) rfl (by simp only [f1, f2, f3, b1]; simp; rfl)
 ·simp at hc
  obtain rfl : k = d.length := by omega
  refine zo ?_
  (repeat apply za); refine pwn ?_; intros
  refine zC 6 rfl ?_
  refine zC 5 rfl ?_
  refine zC 4 rfl ?_
  have g1 : (d.map (zp x)).take d.length = d.map (zp x) := List.take_of_length_le (by simp)
  have g2 : (d.map yQ).take d.length = d.map yQ := List.take_of_length_le (by simp)
  have g3 : (d.map (yP x)).take d.length = d.map (yP x) := List.take_of_length_le (by simp)
  repeat apply za
  exact zd (zg hd (by simp; rfl) (by simp [zl, g1, g2, g3]; simp [← hon, ← htw]))
open Go Go.Proofs
def YZ (P : Program) (k : FuncId) (args : Nat → List PV) (xs : List (List PV)) (ret : PV) : Prop :=
 yC P k ∧ ∀ (l : Nat) (V : Ctx → Store → World → Prop) (_ : ∀ {C C' : Ctx} {S S' : Store} {w w' : World}, Step C S w C' S' w' → V C S w → V C' S' w') (m : Nat) (J : Nat → Store → Prop), (∀ i A, J i A → zF m A) →
  (∀ i A obs x, xs[i]? = some x → J i A → PYield P V l x (ext A m obs) (fun T => ∃ A', J (i + 1) A' ∧ T = ext A' m obs)) →
  ∀ A, J 0 A → PCallsV P V k (args l) A (fun p T => p = ret ∧ J xs.length T)
theorem Vt {P : Program} {N : Nat} {f : FuncId} {fn : Func} {c : Code} {rs : List ResultVar} {args : Nat → List PV} {xs : List (List PV)} {ret : PV} (hf : P.funcs[f]? = some fn) (hname : (fn.name == "runtime.NumGoroutine") = false) (hb : fn.body = some c) (hN : fn.ntmps = N) (hrs : fn.results.toList = rs) (hargs : ∀ l, (args l).length ≤ N)
  (h : ∀ (l : Nat) (V : Ctx → Store → World → Prop) (keep : ∀ {C C' : Ctx} {S S' : Store} {w w' : World}, Step C S w C' S' w' → V C S w → V C' S' w') (nx : Nat) (J : Nat → Store → Prop), (∀ i A, J i A → zF nx A) →
   (∀ i A obs x, xs[i]? = some x → J i A → PYield P V l x (ext A nx obs) (fun T => ∃ A', J (i + 1) A' ∧ T = ext A' nx obs)) →
   ∀ A, J 0 A → PW P ⟨none, V, keep⟩ 0 N c (j5 P rs (fun p T => p = ret ∧ J xs.length T)) (jz (args l)) (ext A nx [])) : YZ P f args xs ret := by
 refine ⟨yG hf hname hb, fun l V keep m J hJ hY A hA => ?_⟩
 have := h l V keep m J hJ hY A hA
 rw [zY (hJ 0 A hA)] at this
 exact QJ hf hb hN hrs (hargs l) this
theorem PYield.mono {P : Program} {V : Ctx → Store → World → Prop} {l : Nat} {args : List PV} {S : Store} {Q Q' : Store → Prop} (h : PYield P V l args S Q) (hq : ∀ T, Q T → Q' T) : PYield P V l args S Q' := by
 intro C w vs h1 h2 h3 h4
 obtain ⟨fn, tmps, assign, body, hy, hR⟩ := h C w vs h1 h2 h3 h4
 refine ⟨fn, tmps, assign, body, hy, hR.mono ?_⟩
 rintro e w' ⟨S', C', a, b, c⟩
 exact ⟨S', C', a, hq _ b, c⟩
theorem Vu {P : Program} {k : FuncId} {args : Nat → List PV} {xs : List (List PV)} {ret : PV} (h : YZ P k args xs ret) {V : Ctx → Store → World → Prop} (keep : ∀ {C C' : Ctx} {S S' : Store} {w w' : World}, Step C S w C' S' w' → V C S w → V C' S' w')
  {l nx : Nat} {J : Nat → Store → Prop} {ys : List (List PV)} (hY : ∀ i A obs x, ys[i]? = some x → J i A → PYield P V l x (ext A nx obs) (fun T => ∃ A', J (i + 1) A' ∧ T = ext A' nx obs))
  (off : Nat) (hxs : ∀ i x, xs[i]? = some x → ys[off + i]? = some x) {A : Store} (hJ : J off A) (obs : List Ob) :
  SpecV P V k (args l) (ext A nx obs) (fun p T => ∃ A', p = ret ∧ J (off + xs.length) A' ∧ T = ext A' nx obs) := by
 refine ⟨h.1, (h.2 l V keep (nx + obs.length) (fun i T => ∃ A', J (off + i) A' ∧ T = ext A' nx obs) ?_ ?_ (ext A nx obs) ⟨A, hJ, rfl⟩).mono ?_⟩
 ·rintro i T ⟨A', _, rfl⟩; exact qi
 ·rintro i T more x hx ⟨A1, hJ1, rfl⟩
  rw [Zl _ _ rfl]
  refine (hY (off + i) A1 (obs ++ more) x (hxs i x hx) hJ1).mono ?_
  rintro T ⟨A', hA', rfl⟩
  exact ⟨ext A' nx obs, ⟨A', hA', rfl⟩, (Zl _ _ rfl).symm⟩
 ·rintro p T ⟨rfl, A', hA', rfl⟩
  exact ⟨A', rfl, hA', rfl⟩
theorem Y0 {P : Program} {nx : Nat} {F : Nat → PV} {obs : List Ob} {rs : List ResultVar} {ps : List PV} {J : Store → Prop} {A : Store} {ret : PV} (hd : zF nx A) (h1 : qV P F (ext A nx obs) rs = some ps) (h2 : zl ps = ret) (hJ : J A) :
  ∃ ps S', qV P F (ext A nx obs) rs = some ps ∧ (zl ps = ret ∧ J S') ∧ ∀ o, S' o = ext A nx obs o ∨ S' o = .dead := ⟨ps, A, h1, ⟨h2, hJ⟩, yg hd⟩
theorem Vv {α : Type} {f : Nat → Option α} {n k : Nat} {v : α} (hk : k < n) (hf : f k = some v) : ((List.range n).filterMap f)[((List.range k).filterMap f).length]? = some v := by
 obtain ⟨m, rfl⟩ : ∃ m, n = k + (m + 1) := ⟨n - k - 1, by omega⟩
 rw [List.range_add, List.filterMap_append, List.getElem?_append_right (Nat.le_refl _), Nat.sub_self, List.range_succ_eq_map]
 simp [hf]
theorem Vw {α : Type} {f : Nat → Option α} {k : Nat} (hf : f k = none) : ((List.range (k + 1)).filterMap f).length = ((List.range k).filterMap f).length := by
 rw [List.range_succ, List.filterMap_append]; simp [hf]
theorem Vx {α : Type} {f : Nat → Option α} {k : Nat} {v : α} (hf : f k = some v) : ((List.range (k + 1)).filterMap f).length = ((List.range k).filterMap f).length + 1 := by
 rw [List.range_succ, List.filterMap_append]; simp [hf]
structure Spot where
 t : Nat
 p : Nat
 m : Int
abbrev xN (s : Spot) : List PV := [.agg [I s.t, I s.p, I s.m]]
def ahZ (l : zn) (i : Nat) : Int := if i = 0 then 0 else (l.getD (i - 1) default).c + 1
def beZ (l : zn) (i : Nat) : Int := if i < l.length then (l.getD i default).c + 1 else 0
def jr (x : Inst) (l : zn) (s : Stop) (i : Nat) : Int := W (W (arc x (ahZ l i) (s.c + 1) + arc x (s.c + 1) (beZ l i)) - arc x (ahZ l i) (beZ l i))
def xh (x : Inst) (t : Nat) (l : zn) (w : Int) (s : Stop) (i : Nat) : Option Spot := if W (w + jr x l s i) ≤ x.len then some ⟨t, i, jr x l s i⟩ else none
def xA (x : Inst) (t : Nat) (l : zn) (fl bad ll w : Int) (s : Stop) : List Spot :=
 if 0 < bad - (if fl = 13 then 1 else 0) ∨ x.cap < W (ll + s.q) then [] else (List.range (l.length + 1)).filterMap (xh x t l w s)
abbrev xi (x : Inst) (d : Day) (on : List Int) (tw : Bool) (fs : List Int) (bad : Int) (ls ws : List Int) : List PV := [I x.days, I x.veh, I x.cap, I x.len, L x.cust, L x.dist, L d, L on, B tw, L fs, I bad, L ls, L ws]
set_option maxRecDepth 20000 in
set_option maxHeartbeats 1600000 in
theorem Zfy (x : Inst) (d : Day) (on : List Int) (tw : Bool) (fs : List Int) (bad : Nat) (ls ws : List Int) (t : Nat) (l : zn) (s : Stop) (fl ll w : Int) (hbad : bad ≤ 1048576) (hdn : d.length ≤ 1048576) (hd : d[t]? = some l) (hfs : fs[t]? = some fl) (hls : ls[t]? = some ll) (hws : ws[t]? = some w)
  (hfn : fs.length = d.length) (hln : ls.length = d.length) (hwn : ws.length = d.length) (hb : fl = 13 → 0 < bad) (hll : l.length ≤ 1048576) (hsl : ∀ s ∈ l, small s.c) (hss : small s.c) :
  YZ Tryz.prog 149 (fun y => [.agg (xi x d on tw fs bad ls ws), I t, .agg [I s.c, I s.q], yld y]) ((xA x t l fl bad ll w s).map xN) (B true) := by
 refine Vt Tryz.func149 (by rfl) rfl Tryz.ntmps149 (congrArg Array.toList Tryz.results149) (by simp) fun y V keep nx J hJd hY A0 hA0 => ?_
 have ht : t < d.length := (List.getElem?_eq_some_iff.1 hd).1
 obtain ⟨fl', tf, a1, -, -, ef⟩ := el1 rfl fs t (by omega)
 obtain ⟨ll', tl, a2, -, -, elo⟩ := el1 rfl ls t (by omega)
 obtain ⟨w', tw', a3, -, -, ew⟩ := el1 rfl ws t (by omega)
 obtain ⟨l', td, a4, -, -, ed⟩ := el1 rfl d t ht
 obtain rfl : fl = fl' := by rw [hfs] at a1; exact Option.some.inj a1
 obtain rfl : ll = ll' := by rw [hls] at a2; exact Option.some.inj a2
 obtain rfl : w = w' := by rw [hws] at a3; exact Option.some.inj a3
 obtain rfl : l = l' := by rw [hd] at a4; exact Option.some.inj a4
 have h1 : 1 ≤ fs.length - t := by omega
 have h2 : 1 ≤ ls.length - t := by omega
 have h3 : 1 ≤ ws.length - t := by omega
 have h4 : 1 ≤ d.length - t := by omega
 have g1 : t < fs.length := by omega
 have g2 : t < ls.length := by omega
 have g3 : t < ws.length := by omega
 repeat apply za
 refine pwn ?_
 intro v0 v1
 (repeat apply za); refine pwn ?_; intros
 repeat apply za
 refine pwN [] (jn3 ef h1 g1) ?_
 intros
 obtain ⟨oth, hoth⟩ : ∃ oth : Int, oth = bad - (if fl = 13 then 1 else 0) := ⟨_, rfl⟩
 repeat apply za
 refine yc (nx := nx) (fun _ : Unit => True) (fun _ => [(1, I t), (3, yld y), (4, .ptr nx v0 0), (6, .ptr (nx + 1) v1 0), (9, I oth)]) (fun _ => A0) (fun _ => [.cells v0 149 (xi x d on tw fs bad ls ws), .cells v1 50 [I s.c, I s.q]]) ?_ ?_
 ·repeat apply za
  refine zk rfl (fun hq => ?_) (fun hq => ?_)
  ·simp at hq
   have hb' := hb hq
   rw [if_pos hq] at hoth
   have wb : IntKind.i64.wrap ((bad : Int) - 1) = oth := by rw [hoth, wr _ (by omega) (by omega)]
   repeat apply za
   refine pwN [] wb ?_
   intros
   exact zu () [] trivial (by simp) rfl (by simp)
  ·simp at hq
   rw [if_neg hq] at hoth
   obtain rfl : oth = bad := by omega
   refine zb ?_
   exact zu () [] trivial (by simp) rfl (by simp)
 ·rintro ⟨⟩ -
  have hout : ∀ (h : 0 < oth ∨ x.cap < W (ll + s.q)), xA x t l fl bad ll w s = [] := fun h => by unfold xA; rw [if_pos (by rw [hoth] at h; exact h)]
  by_cases ho : 0 < oth
  ·rw [hout (.inl ho)] at hY ⊢
   repeat apply za
   refine pwY (some [nx, nx + 1]) (Row.pures [0, 1, 2, 3, 4, 5, 6, 7, 8, 9, 10, 11, 12, 13, 14, 15] .done) mixed (jn2 ho zr) ?_
   intros
   repeat apply za
   refine zj rfl ?_
   (repeat apply za); refine pwn ?_; intros
   repeat apply za
   exact zd (Y0 (hJd _ _ hA0) (by simp; rfl) (by simp [zl]) hA0)
  by_cases hcap : x.cap < W (ll + s.q)
  ·rw [hout (.inr hcap)] at hY ⊢
   repeat apply za
   refine pwY (some [nx, nx + 1]) (Row.pures [0, 1, 2, 3, 4, 5, 6, 7, 8, 9, 10, 11, 12, 13, 14, 15] .done) mixed (jn6 ho hcap elo h2 g2 zr) ?_
   intros
   repeat apply za
   refine zj rfl ?_
   (repeat apply za); refine pwn ?_; intros
   repeat apply za
   exact zd (Y0 (hJd _ _ hA0) (by simp; rfl) (by simp [zl]) hA0)
  have hz : xA x t l fl bad ll w s = (List.range (l.length + 1)).filterMap (xh x t l w s) := by unfold xA; rw [if_neg (by rw [← hoth]; simp [ho, hcap])]
  clear hout
  rw [hz] at hY ⊢
  repeat apply za
  refine pwY (some [nx, nx + 1]) (Row.pures [0, 1, 2, 3, 4, 5, 6, 7, 8, 9, 10, 11, 12, 13, 14, 15] .done) mixed (jn5 ho hcap elo h2 g2) ?_
  intros
  repeat apply za
  refine zi rfl ?_
  refine zb ?_
  have wc : IntKind.i64.wrap (s.c + 1) = s.c + 1 := wr _ (by unfold small at hss; omega) (by unfold small at hss; omega)
  repeat apply za
  refine pwY (some [nx, nx + 1]) (Row.pures [0, 1, 2, 3, 4, 5, 6, 7, 8, 9, 10, 11] .done) mixed (jn4 ed h4 ht wc) ?_
  intros
  have wl : IntKind.i64.wrap ((l.length : Int) + 1) = ((l.length + 1 : Nat) : Int) := wrN _ (by omega)
  repeat apply za
  refine pwN [] wl ?_
  intros
  repeat apply za
  refine ze (qS (σ := Nat × Store) (fun s' => s'.1 ≤ l.length + 1 ∧ J ((List.range s'.1).filterMap (xh x t l w s)).length s'.2) (fun s' => [(1, I t), (3, yld y), (4, .ptr nx v0 0), (6, .ptr (nx + 1) v1 0), (10, L l), (11, I (s.c + 1)), (54, I ((l.length + 1 : Nat) : Int)), (55, I s'.1)]) (fun s' => s'.2)
   (fun _ => [.cells v0 149 (xi x d on tw fs bad ls ws), .cells v1 50 [I s.c, I s.q]]) (fun s' => l.length + 1 - s'.1) (zu (0, A0) [] (by simpa using hA0) (by simp) rfl (by simp)) ?_)
  rintro ⟨k, A⟩ ⟨hk, hJ⟩
  simp only at hk hJ ⊢
  (repeat apply za); refine pwn ?_; intros
  repeat apply za
  refine zk rfl (fun hc => ?_) (fun hc => ?_)
  ·simp at hc
   refine zb (za (ze ?_))
   (repeat apply za); refine pwn ?_; intros
   (repeat apply za); refine pwn ?_; intros
   (repeat apply za); refine pwn ?_; intros
   repeat apply za
   refine yc (nx := nx) (fun _ : Unit => True) (fun _ => [(1, I t), (3, yld y), (4, .ptr nx v0 0), (6, .ptr (nx + 1) v1 0), (10, L l), (11, I (s.c + 1)), (12, I k), (13, I (ahZ l k)), (14, I 0), (54, I ((l.length + 1 : Nat) : Int)), (55, I k)]) (fun _ => A) (fun _ => [.cells v0 149 (xi x d on tw fs bad ls ws), .cells v1 50 [I s.c, I s.q]]) ?_ ?_
   ·repeat apply za
    refine zk rfl (fun hk0 => ?_) (fun hk0 => ?_)
    ·simp at hk0
     obtain ⟨j, rfl⟩ : ∃ j, k = j + 1 := ⟨k - 1, by omega⟩
     obtain ⟨p, tp, p1, -, -, -, ep⟩ := el 2 rfl l j (by omega)
     have wj : IntKind.i64.wrap (j : Int) = (j : Int) := wr _ (by omega) (by omega)
     have hjl : j < l.length := by omega
     have hj2 : 2 ≤ l.length * 2 - j * 2 := by omega
     have hsm := hsl p (List.mem_of_getElem? p1)
     have wp : IntKind.i64.wrap (p.c + 1) = p.c + 1 := wr _ (by unfold small at hsm; omega) (by unfold small at hsm; omega)
     have hah : ahZ l (j + 1) = p.c + 1 := by unfold ahZ; rw [if_neg (by omega), Nat.add_sub_cancel, List.getD_eq_getElem?_getD, p1]; rfl
     repeat apply za
     refine pwN [] (jn5 wj ep wp hjl hj2) ?_
     intros
     exact zu () [] trivial (by simp [hah]) rfl (by simp)
    ·simp at hk0
     subst hk0
     refine zb ?_
     exact zu () [] trivial (by simp [ahZ]) rfl (by simp)
   ·rintro ⟨⟩ -
    (repeat apply za); refine pwn ?_; intros
    repeat apply za
    refine yc (nx := nx) (fun _ : Unit => True) (fun _ => [(1, I t), (3, yld y), (4, .ptr nx v0 0), (6, .ptr (nx + 1) v1 0), (10, L l), (11, I (s.c + 1)), (12, I k), (13, I (ahZ l k)), (14, I (beZ l k)), (54, I ((l.length + 1 : Nat) : Int)), (55, I k)]) (fun _ => A) (fun _ => [.cells v0 149 (xi x d on tw fs bad ls ws), .cells v1 50 [I s.c, I s.q]]) ?_ ?_
    ·repeat apply za
     refine zk rfl (fun hk0 => ?_) (fun hk0 => ?_)
     ·simp at hk0
      obtain ⟨p, tp, p1, -, -, -, ep⟩ := el 2 rfl l k hk0
      have hj2 : 2 ≤ l.length * 2 - k * 2 := by omega
      have hsm := hsl p (List.mem_of_getElem? p1)
      have wp : IntKind.i64.wrap (p.c + 1) = p.c + 1 := wr _ (by unfold small at hsm; omega) (by unfold small at hsm; omega)
      have hah : beZ l k = p.c + 1 := by unfold beZ; rw [if_pos hk0, List.getD_eq_getElem?_getD, p1]; rfl
      repeat apply za
      refine pwN [] (jn4 ep wp hk0 hj2) ?_
      intros
      exact zu () [] trivial (by simp [hah]) rfl (by simp)
     ·simp at hk0
      refine zb ?_
      exact zu () [] trivial (by simp [beZ]; omega) rfl (by simp)
    ·rintro ⟨⟩ -
     have q1 := j8 x (ahZ l k) (s.c + 1)
     have q2 := j8 x (s.c + 1) (beZ l k)
     have q3 := j8 x (ahZ l k) (beZ l k)
     have hmo : W (W (arc x (ahZ l k) (s.c + 1) + arc x (s.c + 1) (beZ l k)) - arc x (ahZ l k) (beZ l k)) = jr x l s k := rfl
     repeat apply za
     refine pwY (some [nx, nx + 1]) (Row.pures [0, 1, 2, 3, 4, 5, 6, 7, 8, 9, 10, 11, 12, 13, 14, 15, 16, 17] .done) mixed trivial ?_
     refine pwP (q1) trivial ?_
     refine pwP (q2) trivial ?_
     refine pwP (q3) hmo ?_
     intros
     by_cases hf : W (w + jr x l s k) ≤ x.len
     ·have hsp : xh x t l w s k = some ⟨t, k, jr x l s k⟩ := by unfold xh; rw [if_pos hf]
      have hat := Vv (n := l.length + 1) (by omega) hsp
      have hnx := Vx hsp
      have hy : (((List.range (l.length + 1)).filterMap (xh x t l w s)).map xN)[((List.range k).filterMap (xh x t l w s)).length]? = some (xN ⟨t, k, jr x l s k⟩) := by rw [List.getElem?_map, hat]; rfl
      repeat apply za
      refine xH (some [nx, nx + 1]) (Row.pures [0, 1, 2, 3, 4, 5, 6, 7, 8, 9, 10, 11, 12, 13, 14, 15, 16] (.alt 17 (Row.pures [18, 19] .done) .stop)) mixed (by rfl) (by rfl) (by rfl) fun K Gp Gc Gh hK hGp hGc hGh X hX0 hX1 hX2 hX => ?_
      simp -implicitDefEqProofs [hX0, hX1, hX2, hX, hmo, ew, h3, g3, hf]
      try clear hX0 hX1 hX2 hX X
      refine hGh _ _ _ _ _ (by rfl) (Zj rfl rfl rfl (hY _ _ _ _ hy hJ) ?_)
      rintro _ ⟨A', hJ', rfl⟩
      refine ⟨by simp [zV], ?_⟩
      clear hGp hGc hGh
      clear Gp Gc Gh
      refine qQ fun Gp Gc Gh hGp hGc hGh X hX0 hX1 hX2 hX => ?_
      simp -implicitDefEqProofs [hX0, hX1, hX2, hX]
      try clear hX0 hX1 hX2 hX X
      refine hK _ _ _ ?_
      clear hK hGp hGc hGh
      clear K Gp Gc Gh
      repeat apply za
      refine zi rfl ?_
      refine zb ?_
      (repeat apply za); refine pwn ?_; intros
      exact zh (k + 1, A') [] ⟨by show k + 1 ≤ _; omega, by rw [hnx]; exact hJ'⟩ (by simp; omega) (by simp [wrN k (by omega)]) rfl (by simp)
     ·have hsp : xh x t l w s k = none := by unfold xh; rw [if_neg hf]
      have hnx := Vw hsp
      repeat apply za
      refine pwY (some [nx, nx + 1]) (Row.pures [0, 1, 2, 3, 4, 5, 6, 7, 8, 9, 10, 11, 12, 13, 14, 15, 16, 17, 18, 19] .done) mixed (jn6 hmo ew h3 g3 hf zr) ?_
      intros
      repeat apply za
      refine zi rfl ?_
      refine zb ?_
      (repeat apply za); refine pwn ?_; intros
      exact zh (k + 1, A) [] ⟨by show k + 1 ≤ _; omega, by rw [hnx]; exact hJ⟩ (by simp; omega) (by simp [wrN k (by omega)]) rfl (by simp)
  ·simp at hc
   obtain rfl : k = l.length + 1 := by omega
   refine zo ?_
   (repeat apply za); refine pwn ?_; intros
   repeat apply za
   exact zd (Y0 (hJd _ _ hJ) (by simp; rfl) (by simp [zl]) (by simpa using hJ))
open Go
theorem Vy (x : Inst) : (qK x).cust.length ≤ 6 := by simp [qK]; omega
structure Goods (n : Int) (l : List Stop) : Prop where
 each : ∀ s ∈ l, 0 ≤ s.c ∧ s.c < n ∧ 1 ≤ s.q ∧ s.q ≤ 12
 nd : (l.map (·.c)).Nodup
 len : l.length ≤ 6
structure Made (n : Int) (d : Day) : Prop where
 goods : Goods n d.flatten
 ne : ∀ t ∈ d, t ≠ []
theorem uF : ∀ (d : Day), (∀ t ∈ d, t ≠ []) → d.length ≤ d.flatten.length
 | [], _ => by simp
 | t :: d, h => by
  have := uF d fun t ht => h t (by simp [ht])
  have h1 : t.length ≠ 0 := by simpa using h t (by simp)
  rw [List.flatten_cons, List.length_append, List.length_cons]; omega
theorem qC {d : Day} {t : zn} (h : t ∈ d) : t.Sublist d.flatten := by
 obtain ⟨a, b, rfl⟩ := List.append_of_mem h
 rw [List.flatten_append, List.flatten_cons]
 exact (List.sublist_append_left t b.flatten).trans (List.sublist_append_right a.flatten _)
section
variable {n : Int} {d : Day} (h : Made n d)
include h
theorem Made.len : d.length ≤ 6 := Nat.le_trans (uF d h.ne) h.goods.len
theorem Made.tlen {t : zn} (ht : t ∈ d) : t.length ≤ 6 := Nat.le_trans (qC ht).length_le h.goods.len
theorem Made.stop {t : zn} (ht : t ∈ d) {s : Stop} (hs : s ∈ t) : 0 ≤ s.c ∧ s.c < n ∧ 1 ≤ s.q ∧ s.q ≤ 12 := h.goods.each s ((qC ht).subset hs)
theorem Made.small (hn : n ≤ 6) {t : zn} (ht : t ∈ d) : ∀ s ∈ t, small s.c := fun s hs => by have := h.stop ht hs; unfold Pv.small; omega
end
theorem Zfz {α : Type} {a b : List (List α)} (h : a.Sublist b) : a.flatten.Sublist b.flatten := by
 induction h with
 | slnil => exact List.Sublist.refl _
 | cons x _ ih => rw [List.flatten_cons]; exact ih.trans (List.sublist_append_right _ _)
 | cons_cons x _ ih => rw [List.flatten_cons, List.flatten_cons]; exact List.Sublist.append_left ih x
theorem ZfA {a b : List Int} (h : a.Perm b) : a.sum = b.sum := by
 induction h with
 | nil => rfl
 | cons x _ ih => simp [ih]
 | swap x y l => simp; omega
 | trans _ _ ih1 ih2 => exact ih1.trans ih2
theorem Made.sub {n : Int} {d e : Day} (h : Made n d) (hs : e.Sublist d) : Made n e := by
 have hf : e.flatten.Sublist d.flatten := Zfz hs
 exact ⟨⟨fun s q => h.goods.each s (hf.subset q), h.goods.nd.sublist (hf.map _), Nat.le_trans hf.length_le h.goods.len⟩, fun t ht => h.ne t (hs.subset ht)⟩
theorem Made.perm {n : Int} {d e : Day} (h : Made n d) (hp : e.Perm d) : Made n e := by
 have hf : e.flatten.Perm d.flatten := hp.flatten
 exact ⟨⟨fun s q => h.goods.each s (hf.subset q), (hf.map _).nodup_iff.2 h.goods.nd, by rw [hf.length_eq]; exact h.goods.len⟩, fun t ht => h.ne t (hp.subset ht)⟩
theorem xk (x : Inst) (d : Day) : zL x d = 0 ↔ (∀ t ∈ d, zp x t = 0) ∧ (d.flatten.map (·.c)).Nodup ∧ (d.length : Int) ≤ x.veh := by
 unfold zL
 cases hf : d.find? (fun t => zp x t != 0) with
 | some t =>
  have h1 := List.find?_some hf
  have h2 := List.mem_of_find?_eq_some hf
  simp only
  constructor
  ·intro e; simp [e] at h1
  ·rintro ⟨h, _⟩; exact h t h2
 | none =>
  rw [List.find?_eq_none] at hf
  simp only
  constructor
  ·intro e
   refine ⟨fun t ht => by simpa using hf t ht, ?_⟩
   split at e
   ·cases e
   ·split at e
    ·cases e
    ·rename_i h1 h2; exact ⟨by simpa using h1, by omega⟩
  ·rintro ⟨_, h1, h2⟩
   rw [if_neg (by simpa using h1), if_neg (by omega)]
theorem vj (x : Inst) (t : zn) : zp x t = 0 ↔ yo x t = true ∧ (t.map (·.c)).Nodup ∧ W (zt t) ≤ x.cap ∧ W (zB x (t.map (·.c))) ≤ x.len := by
 unfold zp
 constructor
 ·intro e
  split at e
  ·cases e
  ·split at e
   ·cases e
   ·split at e
    ·cases e
    ·split at e
     ·cases e
     ·rename_i h1 h2 h3 h4
      exact ⟨by simpa using h1, by simpa using h2, by omega, by omega⟩
 ·rintro ⟨h1, h2, h3, h4⟩
  rw [if_neg (by simp [h1]), if_neg (by simpa using h2), if_neg (by omega), if_neg (by omega)]
theorem JJ {t : zn} (h : ∀ s ∈ t, 0 ≤ s.q ∧ s.q ≤ 2147483648) : 0 ≤ zt t ∧ zt t ≤ 2147483648 * t.length := by
 induction t with
 | nil => simp [zt]
 | cons s t ih =>
  have := ih fun a ha => h a (by simp [ha])
  have := h s (by simp)
  simp only [zt, List.map_cons, List.sum_cons, List.length_cons] at *
  omega
theorem ZfB (a b : zn) : zt (a ++ b) = zt a + zt b := by simp [zt]
open Go Go.Proofs
def zX (x : Inst) (d : Day) (s : Stop) : List Spot :=
 if zp x [s] = 1 ∨ s.c ∈ d.flatten.map (·.c) ∨ ¬ (d.flatten.map (·.c)).Nodup ∨ x.veh < d.length then []
 else ((List.range d.length).flatMap fun t => xA x t (d.getD t []) (zp x (d.getD t [])) (zW x d) (yQ (d.getD t [])) (yP x (d.getD t [])) s) ++
  (if zW x d = 0 ∧ zp x [s] = 0 ∧ (d.length : Int) < x.veh then [⟨d.length, 0, W (zB x [s.c])⟩] else [])
def xl (st : Spot × Bool) (b : Spot) : Spot × Bool := if st.2 = false ∨ b.m < st.1.m then (b, true) else st
def jV (l : List Spot) : Spot × Bool := l.foldl xl (⟨0, 0, 0⟩, false)
def yE (l : zn) (i : Nat) (s : Stop) : zn := l.take i ++ s :: l.drop i
def yR (d : Day) (b : Spot) (s : Stop) : Day := if b.t = d.length then d ++ [[s]] else d.set b.t (yE (d.getD b.t []) b.p s)
def yZ (x : Inst) (d : Day) (s : Stop) : Day × Bool := bif (jV (zX x d s)).2 then (yR d (jV (zX x d s)).1 s, true) else (d, false)
theorem Vz : ∀ (l : List Spot) (st : Spot × Bool), (l.foldl xl st).2 = true → (l.foldl xl st) = st ∨ (l.foldl xl st).1 ∈ l
 | [], st, _ => .inl rfl
 | b :: l, st, h => by
  rw [List.foldl_cons] at h ⊢
  rcases Vz l _ h with e | e
  ·by_cases hq : st.2 = false ∨ b.m < st.1.m
   ·right; rw [e]; unfold xl; rw [if_pos hq]; simp
   ·left; rw [e]; unfold xl; rw [if_neg hq]
  ·exact .inr (by simp [e])
theorem Y1 {l : List Spot} (h : (jV l).2 = true) : (jV l).1 ∈ l := by
 rcases Vz l _ h with e | e
 ·rw [show l.foldl xl (⟨0, 0, 0⟩, false) = jV l from rfl] at e
  rw [e] at h; cases h
 ·exact e
theorem ZfC {x : Inst} {t : Nat} {l : zn} {fl bad ll w : Int} {s : Stop} {b : Spot} (h : b ∈ xA x t l fl bad ll w s) : ¬ (0 < bad - (if fl = 13 then 1 else 0)) ∧ W (ll + s.q) ≤ x.cap ∧ b ∈ (List.range (l.length + 1)).filterMap (xh x t l w s) := by
 unfold xA at h
 by_cases hw : 0 < bad - (if fl = 13 then 1 else 0) ∨ x.cap < W (ll + s.q)
 ·rw [if_pos hw] at h; cases h
 ·rw [if_neg hw] at h
  refine ⟨fun e => hw (.inl e), ?_, h⟩
  rcases Int.lt_or_le x.cap (W (ll + s.q)) with e | e
  ·exact absurd (.inr e) hw
  ·exact e
theorem Zz {x : Inst} {d : Day} {s : Stop} {b : Spot} (h : b ∈ zX x d s) :
  zp x [s] ≠ 1 ∧ s.c ∉ d.flatten.map (·.c) ∧ (d.flatten.map (·.c)).Nodup ∧ (d.length : Int) ≤ x.veh ∧
  ((∃ l, d[b.t]? = some l ∧ b.p ≤ l.length ∧ ¬ (0 < (zW x d : Int) - (if zp x l = 13 then 1 else 0)) ∧ W (yQ l + s.q) ≤ x.cap ∧ b.m = jr x l s b.p ∧ W (yP x l + b.m) ≤ x.len) ∨
   (b = ⟨d.length, 0, W (zB x [s.c])⟩ ∧ zW x d = 0 ∧ zp x [s] = 0 ∧ (d.length : Int) < x.veh)) := by
 unfold zX at h
 split at h
 ·cases h
 ·rename_i hq
  have q1 : zp x [s] ≠ 1 := fun e => hq (.inl e)
  have q2 : s.c ∉ d.flatten.map (·.c) := fun e => hq (.inr (.inl e))
  have q3 : (d.flatten.map (·.c)).Nodup := Classical.byContradiction fun e => hq (.inr (.inr (.inl e)))
  have q4 : (d.length : Int) ≤ x.veh := by
   rcases Int.lt_or_le x.veh d.length with e | e
   ·exact absurd (.inr (.inr (.inr e))) hq
   ·exact e
  refine ⟨q1, q2, q3, q4, ?_⟩
  rw [List.mem_append] at h
  rcases h with h | h
  ·left
   obtain ⟨t, ht, hb⟩ := List.mem_flatMap.1 h
   rw [List.mem_range] at ht
   have hd : d[t]? = some (d.getD t []) := by rw [List.getD_eq_getElem?_getD, List.getElem?_eq_getElem ht]; rfl
   obtain ⟨w1, w2, hb⟩ := ZfC hb
   obtain ⟨i, hi, he⟩ := List.mem_filterMap.1 hb
   rw [List.mem_range] at hi
   unfold xh at he
   by_cases hlen : W (yP x (d.getD t []) + jr x (d.getD t []) s i) ≤ x.len
   ·rw [if_pos hlen] at he
    cases he
    exact ⟨_, hd, by simp only; omega, w1, w2, rfl, hlen⟩
   ·rw [if_neg hlen] at he; cases he
  ·right
   split at h
   ·rename_i hc; simp at h; exact ⟨h, hc⟩
   ·cases h
def zU (a : Int) : List Int → Int
 | [] => a
 | c :: l => zU (c + 1) l
def ZA : List Int → Int
 | [] => 0
 | c :: _ => c + 1
theorem VA (x : Inst) (c : Int) (r : List Int) : ∀ (p : List Int) (a : Int), zZ x a (p ++ c :: r) = zZ x a (p ++ r) + (arc x (zU a p) (c + 1) + arc x (c + 1) (ZA r) - arc x (zU a p) (ZA r))
 | [], a => by
  cases r with
  | nil => simp only [List.nil_append, zZ, zU, ZA]; omega
  | cons e r => simp only [List.nil_append, zZ, zU, ZA]; omega
 | e :: p, a => by
  simp only [List.cons_append, zZ, zU]
  rw [VA x c r p (e + 1)]; omega
theorem VB : ∀ (p : List Int) (a : Int), zU a p = if p.length = 0 then a else (p.getD (p.length - 1) 0) + 1
 | [], a => by simp [zU]
 | [c], a => by simp [zU]
 | c :: e :: p, a => by
  simp only [zU]
  rw [show zU (e + 1) p = zU (c + 1) (e :: p) from rfl, VB (e :: p) (c + 1)]
  simp [List.getD_eq_getElem?_getD]
theorem ZfD (l : zn) (i : Nat) (h : i < l.length) : (l.map (·.c)).getD i 0 = (l.getD i default).c := by
 rw [List.getD_eq_getElem?_getD, List.getD_eq_getElem?_getD, List.getElem?_map, List.getElem?_eq_getElem h]; rfl
theorem VC (x : Inst) (l : zn) (s : Stop) (i : Nat) (h0 : l ≠ []) (hi : i ≤ l.length) :
  zB x ((yE l i s).map (·.c)) = zB x (l.map (·.c)) + (arc x (ahZ l i) (s.c + 1) + arc x (s.c + 1) (beZ l i) - arc x (ahZ l i) (beZ l i)) := by
 unfold zB yE
 rw [if_neg (by simp), if_neg (by simpa using h0)]
 rw [List.map_append, List.map_cons, VA, ← List.map_append, List.take_append_drop]
 have e1 : zU 0 ((l.take i).map (·.c)) = ahZ l i := by
  rw [VB]
  unfold ahZ
  rw [List.length_map, List.length_take]
  by_cases hz : i = 0
  ·rw [if_pos (by omega), if_pos hz]
  ·rw [if_neg (by omega), if_neg hz, ZfD _ _ (by rw [List.length_take]; omega)]
   rw [List.getD_eq_getElem?_getD, List.getD_eq_getElem?_getD, List.getElem?_take_of_lt (by omega), show min i l.length - 1 = i - 1 from by omega]
 have e2 : ZA ((l.drop i).map (·.c)) = beZ l i := by
  unfold beZ
  by_cases hz : i < l.length
  ·rw [if_pos hz, List.drop_eq_getElem_cons hz, List.getD_eq_getElem?_getD, List.getElem?_eq_getElem hz]; rfl
  ·rw [if_neg hz, List.drop_eq_nil_of_le (by omega)]; rfl
 rw [e1, e2]
theorem VD (x : Inst) (l : zn) (s : Stop) (i : Nat) (h0 : l ≠ []) (hi : i ≤ l.length) : yP x (yE l i s) = W (yP x l + jr x l s i) := by
 unfold yP jr
 rw [VC x l s i h0 hi, x6, Q3]
 generalize arc x (ahZ l i) (s.c + 1) + arc x (s.c + 1) (beZ l i) = p
 generalize arc x (ahZ l i) (beZ l i) = q
 generalize zB x (l.map (·.c)) = r
 simp only [W, IntKind.wrap_i64]; omega
theorem VE (l : zn) (s : Stop) (i : Nat) : yQ (yE l i s) = W (yQ l + s.q) := by
 unfold yQ
 rw [x6]
 have : zt (yE l i s) = zt l + s.q := by
  unfold zt yE
  conv => rhs; rw [← List.take_append_drop i l]
  simp only [List.map_append, List.map_cons, List.sum_append, List.sum_cons]; omega
 rw [this]
theorem ZB (l : zn) (s : Stop) (i : Nat) : (yE l i s).Perm (s :: l) := by
 unfold yE
 have := List.perm_middle (a := s) (l₁ := l.take i) (l₂ := l.drop i)
 rwa [List.take_append_drop] at this
theorem JK {α : Type} : ∀ (d : List (List α)) (t : Nat) (l m : List α) (s : α), d[t]? = some l → m.Perm (s :: l) → (d.set t m).flatten.Perm (s :: d.flatten)
 | [], t, l, m, s, h, _ => by simp at h
 | a :: d, 0, l, m, s, h, hm => by
  simp at h; subst h
  simp only [List.set_cons_zero, List.flatten_cons]
  exact (hm.append_right _)
 | a :: d, t + 1, l, m, s, h, hm => by
  simp only [List.getElem?_cons_succ] at h
  simp only [List.set_cons_succ, List.flatten_cons]
  exact ((JK d t l m s h hm).append_left a).trans List.perm_middle
theorem JL {x : Inst} {d : Day} {s : Stop} {b : Spot} (h : b ∈ zX x d s) : (yR d b s).flatten.Perm (s :: d.flatten) := by
 obtain ⟨-, -, -, -, h⟩ := Zz h
 unfold yR
 rcases h with ⟨l, hl, -⟩ | ⟨rfl, -⟩
 ·have hlt := (List.getElem?_eq_some_iff.1 hl).1
  rw [if_neg (by omega), List.getD_eq_getElem?_getD, hl]
  exact JK d b.t l _ s hl (ZB l s b.p)
 ·rw [if_pos rfl]
  simp only [List.flatten_append, List.flatten_cons, List.flatten_nil, List.append_nil]
  exact List.perm_append_comm
theorem VF {x : Inst} {d : Day} {s : Stop} (h : (yZ x d s).2 = true) : (yZ x d s).1.flatten.Perm (s :: d.flatten) := by
 unfold yZ at h ⊢
 cases hb : (jV (zX x d s)).2 with
 | false => rw [hb] at h; cases h
 | true => exact JL (Y1 hb)
theorem ZfE {x : Inst} {d : Day} {s : Stop} (h : (yZ x d s).2 = false) : (yZ x d s).1 = d := by
 unfold yZ at h ⊢
 cases hb : (jV (zX x d s)).2 with
 | false => rfl
 | true => rw [hb] at h; cases h
theorem ZfF {x : Inst} {a b : zn} (h : a.Perm b) : yo x a = yo x b := by
 unfold yo
 have h1 : a.all (qj x) = b.all (qj x) := by
  rw [Bool.eq_iff_iff, List.all_eq_true, List.all_eq_true]
  exact ⟨fun q s hs => q s (h.symm.subset hs), fun q s hs => q s (h.subset hs)⟩
 have h2 : a.isEmpty = b.isEmpty := by
  cases a with
  | nil => rw [List.nil_perm.1 h]
  | cons a l =>
   cases b with
   | nil => exact absurd h.symm (by simp)
   | cons => rfl
 rw [h1, h2]
theorem Y2 {x : Inst} {t : zn} (h : yo x t = true) : t ≠ [] := by
 rintro rfl; simp [yo] at h
theorem JM {x : Inst} {t : zn} (h : yo x t = false) : zp x t = 1 := by unfold zp; rw [if_pos h]
theorem VG {x : Inst} {s : Stop} (h : zp x [s] ≠ 1) : qj x s = true := by
 cases hs : yo x [s] with
 | false => exact absurd (JM hs) h
 | true => simpa [yo] using hs
theorem vk {x : Inst} {d : Day} : zW x d = 0 ↔ ∀ t ∈ d, zp x t = 0 := by
 unfold zW
 rw [List.length_eq_zero_iff, List.filter_eq_nil_iff]
 simp
theorem JN {x : Inst} {d : Day} {s : Stop} {b : Spot} (h : b ∈ zX x d s) : zL x (yR d b s) = 0 := by
 have hp := JL h
 obtain ⟨q1, q2, q3, q4, h⟩ := Zz h
 rw [xk]
 have hg := VG q1
 have hn : ((yR d b s).flatten.map (·.c)).Nodup := by
  rw [(hp.map _).nodup_iff, List.map_cons, List.nodup_cons]
  exact ⟨q2, q3⟩
 refine ⟨?_, hn, ?_⟩
 ·rcases h with ⟨l, hl, hi, ho, hcap, hm, hlen⟩ | ⟨rfl, hb, hs, hv⟩
  ·obtain ⟨hlt, hle⟩ := List.getElem?_eq_some_iff.1 hl
   have hpd : yR d b s = d.set b.t (yE l b.p s) := by unfold yR; rw [if_neg (by omega), List.getD_eq_getElem?_getD, hl]; rfl
   -- the other tours
   have hoth : ∀ j m, j ≠ b.t → d[j]? = some m → zp x m = 0 := by
    intro j m hj hm'
    refine Classical.byContradiction fun hbad => ?_
    have h13 : 0 < zW x d := by
     rcases Nat.eq_zero_or_pos (zW x d) with e | e
     ·exact absurd (vk.1 e m (List.mem_of_getElem? hm')) hbad
     ·exact e
    by_cases hf : zp x l = 13
    ·rw [if_pos hf] at ho
     have h2 : 2 ≤ zW x d := by
      unfold zW
      obtain ⟨hjl, hje⟩ := List.getElem?_eq_some_iff.1 hm'
      have key : ∀ (i j : Nat), i < j → ∀ (a c : zn), d[i]? = some a → d[j]? = some c → zp x a ≠ 0 → zp x c ≠ 0 → 2 ≤ (d.filter fun t => decide (zp x t ≠ 0)).length := by
       intro i j hij a c ha hc na nc
       obtain ⟨hil, rfl⟩ := List.getElem?_eq_some_iff.1 ha
       obtain ⟨hjl, rfl⟩ := List.getElem?_eq_some_iff.1 hc
       have e : d = d.take (i + 1) ++ d.drop (i + 1) := (List.take_append_drop _ _).symm
       rw [e, List.filter_append, List.length_append]
       have m1 : d[i] ∈ (d.take (i + 1)).filter fun t => decide (zp x t ≠ 0) := List.mem_filter.2 ⟨List.mem_of_getElem? (i := i) (by rw [List.getElem?_take_of_lt (by omega)]; exact ha), by simp [na]⟩
       have m2 : d[j] ∈ (d.drop (i + 1)).filter fun t => decide (zp x t ≠ 0) := List.mem_filter.2 ⟨List.mem_of_getElem? (i := j - (i + 1)) (by rw [List.getElem?_drop, show i + 1 + (j - (i + 1)) = j from by omega]; exact hc), by simp [nc]⟩
       have := List.length_pos_of_mem m1
       have := List.length_pos_of_mem m2
       omega
      have nl : zp x l ≠ 0 := by rw [hf]; decide
      rcases Nat.lt_or_ge j b.t with h3 | h3
      ·exact key j b.t h3 m l hm' hl hbad nl
      ·exact key b.t j (by omega) l m hl hm' nl hbad
     omega
    ·rw [if_neg hf] at ho; omega
   -- the tour itself
   have hself : zp x l = 0 ∨ zp x l = 13 := by
    by_cases hf : zp x l = 13
    ·exact .inr hf
    ·rw [if_neg hf] at ho
     exact .inl (vk.1 (by omega) l (List.mem_of_getElem? hl))
   have hst : yo x l = true := by
    cases e : yo x l with
    | true => rfl
    | false => rw [JM e] at hself; rcases hself with h | h <;> cases h
   have hne := Y2 hst
   intro t ht
   rw [hpd] at ht
   obtain ⟨j, hj⟩ := List.mem_iff_getElem?.1 ht
   rw [List.getElem?_set] at hj
   by_cases hjb : b.t = j
   ·rw [if_pos hjb, if_pos hlt] at hj
    cases hj
    rw [vj]
    refine ⟨?_, ?_, ?_, ?_⟩
    ·rw [ZfF (ZB l s b.p)]
     unfold yo at hst ⊢
     simp only [List.all_cons, List.isEmpty_cons, Bool.and_eq_true] at hst ⊢
     exact ⟨⟨hg, hst.1⟩, rfl⟩
    ·have hsub : (yE l b.p s).Sublist (yR d b s).flatten := by rw [hpd]; exact qC ht
     exact hn.sublist (hsub.map _)
    ·have := VE l s b.p
     unfold yQ at this
     rw [this]; exact hcap
    ·have := VD x l s b.p hne hi
     unfold yP at this
     rw [this, ← hm]; exact hlen
   ·rw [if_neg hjb] at hj
    exact hoth j t (fun e => hjb e.symm) hj
  ·unfold yR
   rw [if_pos rfl]
   intro t ht
   rw [List.mem_append] at ht
   rcases ht with ht | ht
   ·exact vk.1 hb t ht
   ·simp at ht; subst ht; exact hs
 ·rcases h with ⟨l, hl, -⟩ | ⟨rfl, -, -, hv⟩
  ·have hlt := (List.getElem?_eq_some_iff.1 hl).1
   unfold yR; rw [if_neg (by omega), List.length_set]; exact q4
  ·unfold yR; rw [if_pos rfl, List.length_append]; simp; omega
def q8 (c : Int) (t : zn) : zn := t.filter fun s => decide (s.c ≠ c)
def qT (c : Int) (d : Day) : Day := (d.map (q8 c)).filter fun t => !t.isEmpty
def VH (c : Int) (d : Day) : Int := W ((d.flatten.filter fun s => decide (s.c = c)).map (·.q)).sum
theorem ZfG (c : Int) (a b : Day) : qT c (a ++ b) = qT c a ++ qT c b := by simp [qT]
open Go Hp
theorem JI.begin : ∀ (l pre : List Stop) (T : Day) (g : Int → Option Int), JI pre T g → ((pre ++ l).map (·.c)).Nodup → ∃ g', JI (pre ++ l) (T ++ l.map fun s => [s]) g'
 | [], pre, T, g, h, _ => ⟨g, by simpa using h⟩
 | s :: l, pre, T, g, h, hn => by
  have hs : s.c ∉ pre.map (·.c) := by
   rw [List.map_append, List.nodup_append] at hn
   exact fun hm => hn.2.2 _ hm s.c (by simp) rfl
  obtain ⟨g', h'⟩ := JI.begin l (pre ++ [s]) (T ++ [[s]]) _ (h.snoc s hs) (by simpa using hn)
  exact ⟨g', by simpa using h'⟩
theorem uG {α : Type} (f : α → Int) : ∀ (T : List α) (i : Nat) (a b : α), T[i]? = some a → ((T.set i b).map f).sum = (T.map f).sum - f a + f b
 | [], i, a, b, h => by simp at h
 | t :: T, 0, a, b, h => by simp at h; subst h; simp; omega
 | t :: T, i + 1, a, b, h => by
  simp only [List.getElem?_cons_succ] at h
  simp only [List.set_cons_succ, List.map_cons, List.sum_cons]
  rw [uG f T i a b h]; omega
theorem ZfH (x : Inst) : zB x [] = 0 := by simp [zB]
theorem ZfI {x : Inst} {a b : List Int} {u v : Int} (hu : a[a.length - 1]? = some u) (hv : b[0]? = some v) : zB x (a ++ b) = zB x a + zB x b - yB x u v := by
 have ha : 0 < a.length := by
  have := (List.getElem?_eq_some_iff.1 hu).1; omega
 have h1 := Zec x (a ++ b) (a.length - 1) u v (by rw [List.getElem?_append_left (by omega)]; exact hu) (by rw [Nat.sub_add_cancel ha, List.getElem?_append_right (Nat.le_refl _), Nat.sub_self]; exact hv)
 rw [Nat.sub_add_cancel ha, List.take_left', List.drop_left'] at h1
 ·exact h1
 ·rfl
 ·rfl
structure KI (x : Inst) (ss : List Stop) (C : Int) (st : Day × Int) : Prop where
 j : ∃ g, JI ss st.1 g
 may : ∀ t ∈ st.1, 1 < t.length → zp x t = 0
 num : st.2 ≤ x.veh
 cost : zA x st.1 ≤ C
theorem KI.step {x : Inst} {ss : List Stop} {C : Int} {st : Day × Int} (h : KI x ss C st) {p : Pr} (ha : p.a ∈ ss.map (·.c)) (hb : p.b ∈ ss.map (·.c)) (hs : p.s = yB x p.a p.b) : KI x ss C (yu x st p) := by
 obtain ⟨g, hI⟩ := h.j
 obtain ⟨i, a, sa, hia, hsa, hsac, hga, hpi⟩ := hI.there ha
 obtain ⟨k, b, sb, hkb, hsb, hsbc, hgb, hpk⟩ := hI.there hb
 have hgi : st.1.getD i [] = a := by rw [List.getD_eq_getElem?_getD, hia]; rfl
 have hgk : st.1.getD k [] = b := by rw [List.getD_eq_getElem?_getD, hkb]; rfl
 unfold yu uC
 rw [hpi, hpk, hgi, hgk]
 cases hc : yf x st.2 p i k a b with
 | false => exact h
 | true =>
  simp only [cond_true]
  unfold yf at hc
  simp only [Bool.and_eq_true, decide_eq_true_eq, Bool.not_eq_true', Bool.and_eq_false_iff, decide_eq_false_iff_not] at hc
  obtain ⟨⟨⟨⟨h1, h2⟩, h3⟩, h4⟩, h5⟩ := hc
  have hn := h.num
  have hpos : 0 < p.s := by rcases h4 with h4 | h4 <;> omega
  refine ⟨⟨_, hI.join hia hkb h1⟩, fun t ht hl => ?_, by simp only; omega, ?_⟩
  ·rcases List.mem_or_eq_of_mem_set ht with ht | ht
   ·rcases List.mem_or_eq_of_mem_set ht with ht | ht
    ·exact h.may t ht hl
    ·rw [ht]; exact h5
   ·rw [ht] at hl; simp at hl
  ·have hk2 : (st.1.set i (a ++ b))[k]? = some b := by rw [List.getElem?_set_ne h1]; exact hkb
   have e1 := uG (fun t : zn => zB x (t.map (·.c))) (st.1.set i (a ++ b)) k b [] hk2
   have e2 := uG (fun t : zn => zB x (t.map (·.c))) st.1 i a (a ++ b) hia
   have e3 := ZfI (x := x) (a := a.map (·.c)) (b := b.map (·.c)) (u := p.a) (v := p.b) (by
    unfold wu at h2; rw [List.getElem?_map, List.length_map]; exact h2) (by unfold wN at h3; rw [List.getElem?_map]; exact h3)
   have hcst := h.cost
   unfold zA at hcst ⊢
   simp only [List.map_append, List.map_nil, ZfH] at e1 e2
   rw [e3] at e2
   simp only
   omega
open Go Go.Proofs
theorem VI {x : Inst} (h : ye x) : ∀ (l : List Int) (a : Int), 0 ≤ zZ x a l ∧ zZ x a l ≤ 2147483648 * ((l.length : Int) + 1)
 | [], a => by
  have := h a 0
  simp only [zZ, List.length_nil]; omega
 | c :: l, a => by
  have h1 := h a (c + 1)
  have h2 := VI h l (c + 1)
  simp only [zZ, List.length_cons]; omega
theorem vZ {x : Inst} (h : ye x) (l : List Int) : 0 ≤ zB x l ∧ zB x l ≤ 2147483648 * ((l.length : Int) + 1) := by
 unfold zB; split
 ·omega
 ·exact VI h l 0
theorem uH {x : Inst} (h : ye x) : ∀ d : Day, 0 ≤ zA x d ∧ zA x d ≤ 2147483648 * ((d.flatten.length : Int) + d.length)
 | [] => by simp [zA]
 | t :: d => by
  have h1 := vZ h (t.map (·.c))
  have h2 := uH h d
  unfold zA at h2 ⊢
  rw [List.length_map] at h1
  simp only [List.map_cons, List.sum_cons, List.flatten_cons, List.length_append, List.length_cons]; omega
theorem uI {x : Inst} (h : ye x) {d : Day} (h1 : d.flatten.length ≤ 1048576) (h2 : d.length ≤ 1048576) : W (zA x d) = zA x d := by
 have := uH h d
 exact wr _ (by omega) (by omega)
def qt (d : Day) : List (Nat × Nat) := (List.range (d.length + 1)).flatMap fun t => (List.range ((d.getD t []).length + 1)).map fun p => (t, p)
def zN (d : Day) (s : Stop) (c : Nat × Nat) : Day := yR d ⟨c.1, c.2, 0⟩ s
def xO (x : Inst) (d : Day) (s : Stop) (c : Nat × Nat) : Int := if c.1 = d.length then W (zB x [s.c]) else jr x (d.getD c.1 []) s c.2
def js (x : Inst) (d : Day) (s : Stop) (c : Nat × Nat) : Option Spot := if zL x (zN d s c) = 0 then some ⟨c.1, c.2, xO x d s c⟩ else none
theorem VJ (d : Day) (s : Stop) (b : Spot) : yR d b s = zN d s (b.t, b.p) := rfl
theorem ZC {d : Day} {c : Nat × Nat} : c ∈ qt d ↔ c.1 ≤ d.length ∧ c.2 ≤ (d.getD c.1 []).length := by
 unfold qt
 rw [List.mem_flatMap]
 constructor
 ·rintro ⟨t, ht, hc⟩
  obtain ⟨p, hp, rfl⟩ := List.mem_map.1 hc
  rw [List.mem_range] at ht hp
  simp only; omega
 ·rintro ⟨h1, h2⟩
  exact ⟨c.1, List.mem_range.2 (by omega), List.mem_map.2 ⟨c.2, List.mem_range.2 (by omega), rfl⟩⟩
abbrev Y3 (x : Inst) (d : Day) (s : Stop) : Prop := zp x [s] = 1 ∨ s.c ∈ d.flatten.map (·.c) ∨ ¬ (d.flatten.map (·.c)).Nodup ∨ x.veh < d.length
theorem JO {d : Day} {s : Stop} {t p : Nat} {l : zn} (hl : d[t]? = some l) : zN d s (t, p) = d.set t (yE l p s) := by
 have hlt := (List.getElem?_eq_some_iff.1 hl).1
 unfold zN yR; rw [if_neg (by simp only; omega), List.getD_eq_getElem?_getD, hl]; rfl
theorem Y4 (d : Day) (s : Stop) (p : Nat) : zN d s (d.length, p) = d ++ [[s]] := by
 unfold zN yR; rw [if_pos rfl]
theorem VK {d : Day} {s : Stop} {c : Nat × Nat} (hc : c ∈ qt d) : (zN d s c).flatten.Perm (s :: d.flatten) := by
 obtain ⟨t, p⟩ := c
 obtain ⟨h1, h2⟩ := ZC.1 hc
 simp only at h1 h2
 by_cases ht : t = d.length
 ·subst ht
  rw [Y4]
  simp only [List.flatten_append, List.flatten_cons, List.flatten_nil, List.append_nil]
  exact List.perm_append_comm
 ·have hl : d[t]? = some (d.getD t []) := by rw [List.getD_eq_getElem?_getD, List.getElem?_eq_getElem (by omega)]; rfl
  rw [JO hl]
  exact JK d t _ _ s hl (ZB _ s p)
theorem ZfJ (d : Day) (s : Stop) (c : Nat × Nat) : d.length ≤ (zN d s c).length ∧ (zN d s c).length ≤ d.length + 1 := by
 unfold zN yR
 split
 ·simp
 ·simp
theorem ZfK {x : Inst} {d : Day} {s : Stop} (hd : zL x d = 0) {c : Nat × Nat} (hc : c ∈ qt d) (h : zL x (zN d s c) = 0) : ¬ Y3 x d s := by
 have hp := VK (s := s) hc
 obtain ⟨g1, g2, g3⟩ := (xk x _).1 h
 obtain ⟨e1, e2, e3⟩ := (xk x _).1 hd
 rw [(hp.map _).nodup_iff, List.map_cons, List.nodup_cons] at g2
 rintro (q | q | q | q)
 ·obtain ⟨u, hu, hsu⟩ := List.mem_flatten.1 (hp.symm.subset (List.mem_cons_self (a := s)))
  have hm := ((vj x u).1 (g1 u hu)).1
  unfold yo at hm
  simp only [Bool.and_eq_true, List.all_eq_true] at hm
  have hgs := hm.1 s hsu
  have : zp x [s] ≠ 1 := by
   unfold zp yo
   rw [if_neg (by simp [hgs])]
   split
   ·decide
   ·split
    ·decide
    ·split <;> decide
  exact this q
 ·exact g2.1 q
 ·exact q e2
 ·omega
theorem VL {x : Inst} {d : Day} {s : Stop} (hd : zL x d = 0) (ho : ¬ Y3 x d s) {t p : Nat} {l : zn} (hl : d[t]? = some l) (hp : p ≤ l.length) :
  zL x (zN d s (t, p)) = 0 ↔ W (yQ l + s.q) ≤ x.cap ∧ W (yP x l + jr x l s p) ≤ x.len := by
 obtain ⟨e1, e2, e3⟩ := (xk x _).1 hd
 have hlm := List.mem_of_getElem? hl
 have hlt := (List.getElem?_eq_some_iff.1 hl).1
 have hm0 := e1 l hlm
 have hne : l ≠ [] := Y2 ((vj x l).1 hm0).1
 have hb : zW x d = 0 := vk.2 e1
 have hg : d.getD t [] = l := by rw [List.getD_eq_getElem?_getD, hl]; rfl
 constructor
 ·intro h
  obtain ⟨g1, -, -⟩ := (xk x _).1 h
  rw [JO hl] at g1
  have := g1 (yE l p s) (List.mem_of_getElem? (i := t) (by simp [hlt]))
  obtain ⟨-, -, a, b⟩ := (vj x _).1 this
  have ha := VE l s p
  have hw := VD x l s p hne hp
  unfold yQ at ha
  unfold yP at hw
  rw [ha] at a; rw [hw] at b
  exact ⟨a, b⟩
 ·rintro ⟨a, b⟩
  have hmem : (⟨t, p, jr x l s p⟩ : Spot) ∈ zX x d s := by
   unfold zX
   rw [if_neg ho]
   refine List.mem_append_left _ (List.mem_flatMap.2 ⟨t, List.mem_range.2 hlt, ?_⟩)
   rw [hg, hb, hm0]
   unfold xA
   rw [if_neg (by simp; omega)]
   refine List.mem_filterMap.2 ⟨p, List.mem_range.2 (by omega), ?_⟩
   unfold xh; rw [if_pos b]
  have := JN hmem
  rwa [VJ] at this
theorem ZfL {x : Inst} {d : Day} {s : Stop} (hd : zL x d = 0) (ho : ¬ Y3 x d s) : zL x (zN d s (d.length, 0)) = 0 ↔ zp x [s] = 0 ∧ (d.length : Int) < x.veh := by
 obtain ⟨e1, e2, e3⟩ := (xk x _).1 hd
 have hb : zW x d = 0 := vk.2 e1
 constructor
 ·intro h
  obtain ⟨g1, -, g3⟩ := (xk x _).1 h
  rw [Y4] at g1 g3
  rw [List.length_append] at g3
  simp at g3
  exact ⟨g1 [s] (by simp), by omega⟩
 ·rintro ⟨a, b⟩
  have hmem : (⟨d.length, 0, W (zB x [s.c])⟩ : Spot) ∈ zX x d s := by
   unfold zX
   rw [if_neg ho, if_pos ⟨hb, a, b⟩]
   exact List.mem_append_right _ (by simp)
  have := JN hmem
  rwa [VJ] at this
theorem VM {α β : Type} {f : α → Option β} {l : List α} (h : ∀ a ∈ l, f a = none) : l.filterMap f = [] := by
 rw [List.filterMap_eq_nil_iff]; exact h
theorem VN {α β : Type} {f g : α → List β} : ∀ {l : List α}, (∀ a ∈ l, f a = g a) → l.flatMap f = l.flatMap g
 | [], _ => rfl
 | a :: l, h => by rw [List.flatMap_cons, List.flatMap_cons, h a (by simp), VN fun b hb => h b (by simp [hb])]
theorem VO {α β : Type} {f g : α → Option β} : ∀ {l : List α}, (∀ a ∈ l, f a = g a) → l.filterMap f = l.filterMap g
 | [], _ => rfl
 | a :: l, h => by
  have ih := VO (f := f) (g := g) (l := l) fun b hb => h b (by simp [hb])
  rw [List.filterMap_cons, List.filterMap_cons, h a (by simp), ih]
def xn (x : Inst) (d : Day) (s : Stop) (t : Nat) : List Spot := ((List.range ((d.getD t []).length + 1)).map fun p => (t, p)).filterMap (js x d s)
theorem VP {x : Inst} {d : Day} {s : Stop} (hd : zL x d = 0) : zX x d s = (List.range (d.length + 1)).flatMap (xn x d s) := by
 by_cases ho : Y3 x d s
 ·unfold zX
  rw [if_pos ho]
  symm
  rw [List.flatMap_eq_nil_iff]
  intro t ht
  rw [List.mem_range] at ht
  refine VM fun c hc => ?_
  obtain ⟨p, hp, rfl⟩ := List.mem_map.1 hc
  rw [List.mem_range] at hp
  unfold js
  rw [if_neg]
  intro h
  exact ZfK hd (ZC.2 ⟨by simp only; omega, by simp only; omega⟩) h ho
 ·unfold zX
  obtain ⟨e1, e2, e3⟩ := (xk x _).1 hd
  have hb : zW x d = 0 := vk.2 e1
  rw [if_neg ho, List.range_succ, List.flatMap_append]
  congr 1
  ·refine VN fun t ht => ?_
   rw [List.mem_range] at ht
   have hl : d[t]? = some (d.getD t []) := by rw [List.getD_eq_getElem?_getD, List.getElem?_eq_getElem ht]; rfl
   have hm0 := e1 _ (List.mem_of_getElem? hl)
   unfold xn xA
   rw [hm0, hb, List.filterMap_map]
   by_cases hcap : x.cap < W (yQ (d.getD t []) + s.q)
   ·rw [if_pos (.inr hcap)]
    symm
    refine VM fun p hp => ?_
    rw [List.mem_range] at hp
    simp only [Function.comp_apply]
    unfold js
    rw [if_neg]
    rw [VL hd ho hl (by omega)]
    omega
   ·rw [if_neg (show ¬ (0 < ((0 : Nat) : Int) - (if (0 : Int) = 13 then 1 else 0) ∨ x.cap < W (yQ (d.getD t []) + s.q)) from by rintro (q | q); exact absurd q (by decide); exact hcap q)]
    refine VO fun p hp => ?_
    rw [List.mem_range] at hp
    simp only [Function.comp_apply]
    have hi := VL (p := p) hd ho hl (by omega)
    unfold js xh xO
    simp only
    rw [if_neg (show ¬ t = d.length by omega)]
    by_cases hw : W (yP x (d.getD t []) + jr x (d.getD t []) s p) ≤ x.len
    ·rw [if_pos hw, if_pos (hi.2 ⟨by omega, hw⟩)]
    ·rw [if_neg hw, if_neg fun e => hw (hi.1 e).2]
  ·have hi := ZfL hd ho
   simp only [List.flatMap_cons, List.flatMap_nil, List.append_nil]
   unfold xn
   rw [show d.getD d.length [] = ([] : zn) from by rw [List.getD_eq_getElem?_getD, List.getElem?_eq_none (Nat.le_refl _)]; rfl]
   simp only [List.length_nil, Nat.zero_add, List.range_one, List.map_cons, List.map_nil, List.filterMap_cons, List.filterMap_nil]
   unfold js xO
   simp only [if_true]
   by_cases hc : zp x [s] = 0 ∧ (d.length : Int) < x.veh
   ·rw [if_pos ⟨hb, hc⟩, if_pos (hi.2 hc)]
   ·rw [if_neg fun e => hc e.2, if_neg fun e => hc (hi.1 e)]
theorem VQ {α β γ : Type} (f : α → List β) (g : β → Option γ) : ∀ l : List α, (l.flatMap f).filterMap g = l.flatMap fun a => (f a).filterMap g
 | [] => rfl
 | a :: l => by rw [List.flatMap_cons, List.filterMap_append, VQ f g l, List.flatMap_cons]
theorem VR {x : Inst} {d : Day} {s : Stop} (hd : zL x d = 0) : zX x d s = (qt d).filterMap (js x d s) := by
 rw [VP hd]; unfold qt; rw [VQ]; rfl
theorem ZfM {x : Inst} (h : ye x) (l : zn) (s : Stop) (p : Nat) : jr x l s p = arc x (ahZ l p) (s.c + 1) + arc x (s.c + 1) (beZ l p) - arc x (ahZ l p) (beZ l p) := by
 unfold jr
 have h1 := h (ahZ l p) (s.c + 1)
 have h2 := h (s.c + 1) (beZ l p)
 have h3 := h (ahZ l p) (beZ l p)
 rw [show W (arc x (ahZ l p) (s.c + 1) + arc x (s.c + 1) (beZ l p)) = arc x (ahZ l p) (s.c + 1) + arc x (s.c + 1) (beZ l p) from wr _ (by omega) (by omega)]
 exact wr _ (by omega) (by omega)
theorem JP {x : Inst} (h : ye x) {d : Day} {s : Stop} {c : Nat × Nat} (hc : c ∈ qt d) (hne : ∀ t ∈ d, t ≠ []) : zA x (zN d s c) = zA x d + xO x d s c := by
 obtain ⟨t, p⟩ := c
 obtain ⟨h1, h2⟩ := ZC.1 hc
 simp only at h1 h2
 unfold xO
 by_cases ht : t = d.length
 ·subst ht
  rw [Y4, Jh]
  simp only [if_true, List.map_cons, List.map_nil]
  have := vZ h [s.c]
  simp only [List.length_cons, List.length_nil] at this
  rw [show W (zB x [s.c]) = zB x [s.c] from wr _ (by omega) (by omega)]
 ·have hl : d[t]? = some (d.getD t []) := by rw [List.getD_eq_getElem?_getD, List.getElem?_eq_getElem (by omega)]; rfl
  rw [JO hl, if_neg (by simpa using ht)]
  unfold zA
  rw [uG (fun t : zn => zB x (t.map (·.c))) d t _ _ hl, ZfM h, VC x _ s p (hne _ (List.mem_of_getElem? hl)) h2]
  simp only
  omega
def xo (x : Inst) (d : Day) (s : Stop) (st : Day × Bool) (c : Nat × Nat) : Day × Bool :=
 if zL x (zN d s c) = 0 then (if st.2 = false ∨ W (zA x (zN d s c)) < W (zA x st.1) then (zN d s c, true) else st) else st
def ZD (x : Inst) (d : Day) (s : Stop) : Day × Bool := (qt d).foldl (xo x d s) (d, false)
theorem Y5 {d : Day} {s : Stop} (h1 : d.length ≤ 1000000) (h2 : d.flatten.length ≤ 1000000) {c : Nat × Nat} (hc : c ∈ qt d) : (zN d s c).flatten.length ≤ 1048576 ∧ (zN d s c).length ≤ 1048576 := by
 have e := (VK (s := s) hc).length_eq
 have e2 := ZfJ d s c
 rw [List.length_cons] at e
 omega
theorem JQ {x : Inst} (h : ye x) {d : Day} {s : Stop} (hne : ∀ t ∈ d, t ≠ []) (h1 : d.length ≤ 1000000) (h2 : d.flatten.length ≤ 1000000) : ∀ (l : List (Nat × Nat)) (st : Day × Bool) (bt : Spot × Bool), (∀ c ∈ l, c ∈ qt d) →
  (st.2 = bt.2 ∧ (bt.2 = false → st.1 = d) ∧ (bt.2 = true → (bt.1.t, bt.1.p) ∈ qt d ∧ st.1 = zN d s (bt.1.t, bt.1.p) ∧ bt.1.m = xO x d s (bt.1.t, bt.1.p))) →
  l.foldl (xo x d s) st = (bif ((l.filterMap (js x d s)).foldl xl bt).2 then (yR d ((l.filterMap (js x d s)).foldl xl bt).1 s, true) else (d, false))
 | [], st, bt, _, hst => by
  obtain ⟨a, b⟩ := st
  obtain ⟨e1, e2, e3⟩ := hst
  simp only at e1 e2 e3
  simp only [List.foldl_nil, List.filterMap_nil]
  cases hb : bt.2 with
  | false => rw [hb] at e1; rw [e1, e2 hb]; rfl
  | true => rw [hb] at e1; rw [e1, (e3 hb).2.1]; rfl
 | c :: l, st, bt, hl, hst => by
  have hc := hl c (by simp)
  have hl' : ∀ c ∈ l, c ∈ qt d := fun q hq => hl q (by simp [hq])
  rw [List.foldl_cons, List.filterMap_cons]
  by_cases h0 : zL x (zN d s c) = 0
  ·have hcs : js x d s c = some ⟨c.1, c.2, xO x d s c⟩ := by unfold js; rw [if_pos h0]
   rw [hcs]
   simp only [List.foldl_cons]
   refine JQ h hne h1 h2 l _ _ hl' ?_
   obtain ⟨e1, e2, e3⟩ := hst
   unfold xo xl
   rw [if_pos h0]
   have hcmp : (st.2 = false ∨ W (zA x (zN d s c)) < W (zA x st.1)) ↔ (bt.2 = false ∨ xO x d s c < bt.1.m) := by
    rw [e1]
    cases hb : bt.2 with
    | false => simp
    | true =>
     obtain ⟨q1, q2, q3⟩ := e3 hb
     have b1 := Y5 (s := s) h1 h2 hc
     have b2 := Y5 (s := s) h1 h2 q1
     rw [q2, uI h b1.1 b1.2, uI h b2.1 b2.2, JP h hc hne, JP h q1 hne, q3]
     simp only [Bool.true_eq_false, false_or]
     omega
   by_cases hq : st.2 = false ∨ W (zA x (zN d s c)) < W (zA x st.1)
   ·rw [if_pos hq, if_pos (hcmp.1 hq)]
    exact ⟨rfl, (fun e => by cases e), fun _ => ⟨hc, rfl, rfl⟩⟩
   ·rw [if_neg hq, if_neg fun e => hq (hcmp.2 e)]
    exact ⟨e1, e2, e3⟩
  ·have hcs : js x d s c = none := by unfold js; rw [if_neg h0]
   rw [hcs]
   unfold xo
   rw [if_neg h0]
   exact JQ h hne h1 h2 l _ _ hl' hst
theorem Y6 {x : Inst} {d : Day} (h : zL x d = 0) : ∀ t ∈ d, t ≠ [] := fun t ht => Y2 ((vj x t).1 (((xk x d).1 h).1 t ht)).1
theorem ZfN {x : Inst} (h : ye x) {d : Day} {s : Stop} (hd : zL x d = 0) (h1 : d.length ≤ 1000000) (h2 : d.flatten.length ≤ 1000000) : ZD x d s = yZ x d s := by
 unfold ZD yZ jV
 rw [JQ h (Y6 hd) h1 h2 (qt d) (d, false) (⟨0, 0, 0⟩, false) (fun _ h => h) ⟨rfl, fun _ => rfl, fun e => by cases e⟩, VR hd]
def wv (st : Int × Bool) (m : Int) : Int × Bool := if st.2 = false ∨ m < st.1 then (m, true) else st
def jW (l : List Int) : Int × Bool := l.foldl wv (0, false)
def xP (x : Inst) (d : Day) (s : Stop) (n : Nat) : List Int := (List.range n).filterMap fun t => bif (jW ((xn x d s t).map (·.m))).2 then some (jW ((xn x d s t).map (·.m))).1 else none
def ww (x : Inst) (d : Day) (s : Stop) : List Int := zQ (xP x d s (d.length + 1))
theorem JR : ∀ (l : List Int) (m : Int), (l.foldl wv (m, true)).2 = true
 | [], _ => rfl
 | a :: l, m => by
  rw [List.foldl_cons]
  unfold wv
  split
  ·exact JR l a
  ·exact JR l m
theorem ZfO : jW [] = (0, false) := rfl
theorem ZfP (a : Int) (l : List Int) : jW (a :: l) = l.foldl wv (a, true) := by
 unfold jW; rw [List.foldl_cons]; unfold wv; simp
def q9 (st : List Int × Int) (p : Spot) : List Int × Int :=
 if (p.t : Int) ≠ st.2 then (st.1 ++ [p.m], (p.t : Int)) else (st.1.set (st.1.length - 1) (if p.m < st.1.getD (st.1.length - 1) 0 then p.m else st.1.getD (st.1.length - 1) 0), st.2)
theorem VS (t : Nat) : ∀ (g : List Spot) (l : List Int) (m : Int), (∀ p ∈ g, p.t = t) → g.foldl q9 (l ++ [m], (t : Int)) = (l ++ [((g.map (·.m)).foldl wv (m, true)).1], (t : Int))
 | [], l, m, _ => rfl
 | p :: g, l, m, h => by
  have hp := h p (by simp)
  have hs : q9 (l ++ [m], (t : Int)) p = (l ++ [if p.m < m then p.m else m], (t : Int)) := by
   unfold q9
   rw [hp, if_neg (by simp)]
   simp
  have hm : wv (m, true) p.m = (if p.m < m then p.m else m, true) := by
   unfold wv
   by_cases q : p.m < m <;> simp [q]
  rw [List.foldl_cons, hs, List.map_cons, List.foldl_cons, hm]
  exact VS t g l _ fun q hq => h q (by simp [hq])
theorem ZfQ {t : Nat} {g : List Spot} (hg : ∀ p ∈ g, p.t = t) (l : List Int) (last : Int) (hl : last < t) :
  g.foldl q9 (l, last) = (l ++ (bif (jW (g.map (·.m))).2 then [(jW (g.map (·.m))).1] else []), if g = [] then last else (t : Int)) := by
 cases g with
 | nil => simp [ZfO]
 | cons p g =>
  have hp := hg p (by simp)
  have hs : q9 (l, last) p = (l ++ [p.m], (t : Int)) := by
   unfold q9; rw [hp, if_pos (by simp only [ne_eq]; omega)]
  rw [List.foldl_cons, hs, VS t g l p.m fun q hq => hg q (by simp [hq]), List.map_cons, ZfP, JR]
  simp
theorem ZfR {x : Inst} {d : Day} {s : Stop} {t : Nat} : ∀ p ∈ xn x d s t, p.t = t := by
 intro b hb
 unfold xn at hb
 obtain ⟨c, hc, he⟩ := List.mem_filterMap.1 hb
 obtain ⟨p, -, rfl⟩ := List.mem_map.1 hc
 unfold js at he
 split at he
 ·cases he; rfl
 ·cases he
theorem VT (x : Inst) (d : Day) (s : Stop) : ∀ n : Nat, ∃ last : Int, last < n ∧ ((List.range n).flatMap (xn x d s)).foldl q9 ([], -1) = (xP x d s n, last)
 | 0 => ⟨-1, by omega, rfl⟩
 | n + 1 => by
  obtain ⟨last, h1, h2⟩ := VT x d s n
  rw [List.range_succ, List.flatMap_append, List.foldl_append, h2]
  simp only [List.flatMap_cons, List.flatMap_nil, List.append_nil]
  rw [ZfQ ZfR _ _ h1]
  refine ⟨_, ?_, by
   congr 1
   unfold xP
   rw [List.range_succ, List.filterMap_append]
   congr 1
   cases hm : (jW ((xn x d s n).map (·.m))).2 <;> simp [hm]⟩
  split <;> omega
theorem ZfS {x : Inst} {d : Day} {s : Stop} (hd : zL x d = 0) : ((zX x d s).foldl q9 ([], -1)).1 = xP x d s (d.length + 1) := by
 rw [VP hd]
 obtain ⟨last, -, h⟩ := VT x d s (d.length + 1)
 rw [h]
theorem VU : ∀ {a b : List Int}, a.Perm b → a.Pairwise (· ≤ ·) → b.Pairwise (· ≤ ·) → a = b
 | [], b, h, _, _ => (List.nil_perm.1 h).symm
 | x :: a, [], h, _, _ => absurd h.symm (by simp)
 | x :: a, y :: b, h, ha, hb => by
  rw [List.pairwise_cons] at ha hb
  have hxy : x = y := by
   have h1 : x ∈ y :: b := h.subset (by simp)
   have h2 : y ∈ x :: a := h.symm.subset (by simp)
   have q1 : y ≤ x := by
    rcases List.mem_cons.1 h1 with e | e
    ·omega
    ·exact hb.1 x e
   have q2 : x ≤ y := by
    rcases List.mem_cons.1 h2 with e | e
    ·omega
    ·exact ha.1 y e
   omega
  subst hxy
  rw [VU ((List.perm_cons x).1 h) ha.2 hb.2]
theorem ZfT {out : List Int} {b : Int} (h : out.Pairwise (· ≤ ·)) {k : Nat} (hk : k ≤ out.length) (h1 : ∀ (j : Nat) z, k ≤ j → out[j]? = some z → b < z) (h2 : k = 0 ∨ ∃ z, out[k - 1]? = some z ∧ z ≤ b) : (out.take k ++ b :: out.drop k).Pairwise (· ≤ ·) := by
 rw [List.pairwise_append, List.pairwise_cons]
 refine ⟨h.sublist (List.take_sublist _ _), ⟨fun z hz => ?_, h.sublist (List.drop_sublist _ _)⟩, fun a ha z hz => ?_⟩
 ·obtain ⟨j, hj⟩ := List.mem_iff_getElem?.1 hz
  rw [List.getElem?_drop] at hj
  have := h1 (k + j) z (by omega) hj
  omega
 ·have hab : a ≤ b := by
   obtain ⟨i, hi⟩ := List.mem_iff_getElem?.1 ha
   rw [List.getElem?_take] at hi
   split at hi
   ·rename_i hik
    rcases h2 with rfl | ⟨y, hy, hyb⟩
    ·omega
    ·obtain ⟨g1, g2⟩ := List.getElem?_eq_some_iff.1 hi
     obtain ⟨g3, g4⟩ := List.getElem?_eq_some_iff.1 hy
     by_cases e : i = k - 1
     ·subst e; rw [← g2, g4]; exact hyb
     ·have := List.pairwise_iff_getElem.1 h i (k - 1) g1 g3 (by omega)
      omega
   ·cases hi
  rcases List.mem_cons.1 hz with rfl | hz
  ·exact hab
  ·obtain ⟨j, hj⟩ := List.mem_iff_getElem?.1 hz
   rw [List.getElem?_drop] at hj
   have := h1 (k + j) z (by omega) hj
   omega
theorem ZfU {l out : List Int} {b : Int} (ho : out = zQ l) {k : Nat} (hk : k ≤ out.length) (h1 : ∀ (j : Nat) z, k ≤ j → out[j]? = some z → b < z) (h2 : k = 0 ∨ ∃ z, out[k - 1]? = some z ∧ z ≤ b) : out.take k ++ b :: out.drop k = zQ (l ++ [b]) := by
 refine VU ?_ (ZfT (ho ▸ vQ l) hk h1 h2) (vQ _)
 refine (List.perm_middle.trans ?_).trans (YL _).symm
 rw [List.take_append_drop, ho]
 exact ((YL l).cons b).trans (List.perm_append_singleton b l).symm
open Go Go.Proofs
def qM (l : zn) (b : Bool) (p : Nat) (s : Stop) (i : Nat) : zn := (List.range i).flatMap fun q => (if b = true ∧ q = p then [s] else []) ++ (if q < l.length then [l.getD q default] else [])
theorem Y7 (l : zn) (b : Bool) (p : Nat) (s : Stop) (i : Nat) : qM l b p s (i + 1) = qM l b p s i ++ (if b = true ∧ i = p then [s] else []) ++ (if i < l.length then [l.getD i default] else []) := by
 unfold qM; rw [List.range_succ, List.flatMap_append]; simp
theorem Y8 (l : zn) (i : Nat) : l.take i ++ (if i < l.length then [l.getD i default] else []) = l.take (i + 1) := by
 by_cases h : i < l.length
 ·rw [if_pos h, List.take_succ_eq_append_getElem h, List.getD_eq_getElem?_getD, List.getElem?_eq_getElem h]; rfl
 ·rw [if_neg h, List.append_nil, List.take_of_length_le (by omega), List.take_of_length_le (by omega)]
theorem VV (l : zn) (b : Bool) (p : Nat) (s : Stop) (hp : p ≤ l.length) : ∀ i, qM l b p s i = if b = true ∧ p < i then l.take p ++ s :: (l.drop p).take (i - p) else l.take i
 | 0 => by simp [qM]
 | i + 1 => by
  rw [Y7, VV l b p s hp i]
  by_cases hb : b = true
  ·rcases Nat.lt_trichotomy i p with h | h | h
   ·rw [if_neg (show ¬ (b = true ∧ p < i) from fun e => by omega), if_neg (show ¬ (b = true ∧ i = p) from fun e => by omega), if_neg (show ¬ (b = true ∧ p < i + 1) from fun e => by omega), List.append_nil, Y8]
   ·subst h
    rw [if_neg (show ¬ (b = true ∧ i < i) from fun e => by omega), if_pos (show b = true ∧ i = i from ⟨hb, rfl⟩), if_pos (show b = true ∧ i < i + 1 from ⟨hb, by omega⟩), show i + 1 - i = 1 by omega]
    by_cases hl : i < l.length
    ·rw [if_pos hl, List.drop_eq_getElem_cons hl, List.getD_eq_getElem?_getD, List.getElem?_eq_getElem hl, List.append_assoc]; rfl
    ·rw [if_neg hl, List.drop_of_length_le (by omega)]; simp
   ·have := Y8 (l.drop p) (i - p)
    rw [List.length_drop] at this
    rw [if_pos (show b = true ∧ p < i from ⟨hb, h⟩), if_neg (show ¬ (b = true ∧ i = p) from fun e => by omega), if_pos (show b = true ∧ p < i + 1 from ⟨hb, by omega⟩), List.append_nil, List.append_assoc, List.cons_append, show i + 1 - p = i - p + 1 by omega, ← this]
    by_cases hl : i < l.length
    ·rw [if_pos hl, if_pos (show i - p < l.length - p by omega), List.getD_eq_getElem?_getD, List.getD_eq_getElem?_getD, List.getElem?_drop, show p + (i - p) = i by omega]
    ·rw [if_neg hl, if_neg (show ¬ i - p < l.length - p by omega)]
  ·rw [if_neg (show ¬ (b = true ∧ p < i) from fun e => hb e.1), if_neg (show ¬ (b = true ∧ i = p) from fun e => hb e.1), if_neg (show ¬ (b = true ∧ p < i + 1) from fun e => hb e.1), List.append_nil, Y8]
theorem VW (l : zn) (b : Bool) (p : Nat) (s : Stop) : ∀ i, (qM l b p s i).length ≤ 2 * i
 | 0 => by simp [qM]
 | i + 1 => by
  have := VW l b p s i
  rw [Y7, List.length_append, List.length_append]
  split <;> split <;> simp <;> omega
theorem ZfV (l : zn) (b : Bool) (p : Nat) (s : Stop) (hp : p ≤ l.length) : qM l b p s (l.length + 1) = if b = true then yE l p s else l := by
 rw [VV l b p s hp]
 cases b with
 | true => rw [if_pos ⟨rfl, by omega⟩, if_pos rfl, List.take_of_length_le (l := l.drop p) (by rw [List.length_drop]; omega)]; rfl
 | false => rw [if_neg (by simp), if_neg (by simp), List.take_of_length_le (by omega)]
def qN (d : Day) (t p : Nat) (s : Stop) (j : Nat) : Day := (List.range j).map fun i => if i = t then yE (d.getD i []) p s else d.getD i []
theorem ZfW (d : Day) (t p : Nat) (s : Stop) (j : Nat) : qN d t p s (j + 1) = qN d t p s j ++ [if j = t then yE (d.getD j []) p s else d.getD j []] := by
 unfold qN; rw [List.range_succ, List.map_append]; rfl
theorem VX (d : Day) (t p : Nat) (s : Stop) (j : Nat) : (qN d t p s j).length = j := by simp [qN]
theorem ZfX (d : Day) (t p : Nat) (s : Stop) : qN d t p s d.length = d.set t (yE (d.getD t []) p s) := by
 apply List.ext_getElem?
 intro j
 unfold qN
 rw [List.getElem?_map, List.getElem?_set]
 by_cases hj : j < d.length
 ·rw [List.getElem?_range hj]
  simp only [Option.map_some]
  by_cases h : t = j
  ·subst h; rw [if_pos rfl, if_pos rfl, if_pos hj]
  ·rw [if_neg (fun e => h e.symm), if_neg h, List.getElem?_eq_getElem hj, List.getD_eq_getElem?_getD, List.getElem?_eq_getElem hj]; rfl
 ·rw [List.getElem?_eq_none (by simp; omega)]
  by_cases h : t = j
  ·subst h; rw [if_pos rfl, if_neg hj]; rfl
  ·rw [if_neg h, List.getElem?_eq_none (by omega)]; rfl
theorem ZfY {d : Day} {t p : Nat} {s : Stop} (ht : t ≤ d.length) : qN d t p s d.length ++ (if t = d.length then [[s]] else []) = zN d s (t, p) := by
 rw [ZfX]
 by_cases h : t = d.length
 ·subst h
  rw [if_pos rfl, Y4, List.set_eq_of_length_le (Nat.le_refl _)]
 ·rw [if_neg h, List.append_nil]
  unfold zN yR
  rw [if_neg (by simpa using h)]
set_option maxRecDepth 20000 in
set_option maxHeartbeats 1600000 in
theorem VY (d : Day) (t p : Nat) (s : Stop) (hd0 : d.length ≤ 1000000) (hd1 : ∀ l ∈ d, l.length ≤ 1000000) (ht : t ≤ d.length) (hp : p ≤ (d.getD t []).length) : Pure Tryz.prog 113 [.agg [L d], I t, I p, .agg [I s.c, I s.q]] (.agg [L (zN d s (t, p))]) := by
 rw [← ZfY ht]
 refine pwe Tryz.func113 Tryz.ntmps113 Tryz.results113 fun S nx hd => ?_
 repeat apply za
 refine pwn ?_
 intro v0 v1 v2
 repeat apply za
 refine pwn ?_
 intro v3
 refine yN 3 0 72 1 rfl rfl fun v4 => ?_
 (repeat apply za); refine pwn ?_; intros
 repeat apply za
 refine ze (zq (fun s' : Nat × Nat => s'.1 ≤ d.length) (fun (j, v4) => [(1, I t), (2, I p), (4, .ptr nx v0 0), (7, .ptr (nx + 1) v1 0), (8, .ptr (nx + 2) v2 0), (9, .ptr (nx + 3) v3 0), (10, I j)]) (fun (j, v4) => [.cells v0 66 [L d], .cells v1 50 [I s.c, I s.q], .cells v2 66 [zJ], .cells v3 66 [.sl (nx + 4) v4 1 0 j], .cells v4 72 ((qN d t p s j).flatMap Enc.enc)]) (fun s' => d.length - s'.1) (0, v4) [] (by simp) (by simp) (by simp [qN]) ?_)
 rintro ⟨j, v4⟩ hj
 simp only at hj ⊢
 (repeat apply za); refine pwn ?_; intros
 repeat apply za
 refine zk rfl (fun hc => ?_) (fun hc => ?_)
 ·simp at hc
  obtain ⟨l, tl, a1, a2, a3, e0⟩ := el1 rfl d j hc
  have hj1 : 1 ≤ d.length - j := by omega
  have hlm := List.mem_of_getElem? a1
  have hln := hd1 l hlm
  have hgl : d.getD j [] = l := by rw [List.getD_eq_getElem?_getD, a1]; rfl
  obtain ⟨b, hb⟩ : ∃ b, b = decide (j = t) := ⟨_, rfl⟩
  have hps := ZfW d t p s j
  have hpp : b = true → p ≤ l.length := fun e => by
   have e : j = t := of_decide_eq_true (hb ▸ e)
   rw [← e, hgl] at hp; exact hp
  have hall : qM l b p s (l.length + 1) = if j = t then yE (d.getD j []) p s else d.getD j [] := by
   rw [hgl]
   cases hbb : b with
   | true =>
    rw [ZfV l true p s (hpp hbb), if_pos rfl]
    rw [hbb] at hb
    rw [if_pos (of_decide_eq_true hb.symm)]
   | false =>
    have key : ∀ i, qM l false p s i = l.take i := by
     intro i
     induction i with
     | zero => simp [qM]
     | succ i ih => rw [Y7, ih, if_neg (by simp), List.append_nil, Y8]
    rw [key, List.take_of_length_le (by omega)]
    rw [hbb] at hb
    rw [if_neg (of_decide_eq_false hb.symm)]
  rw [← hall] at hps
  have hpl := VX d t p s j
  have hps2 : ((qN d t p s (j + 1)).flatMap Enc.enc : List PV) = (qN d t p s j).flatMap Enc.enc ++ [L (qM l b p s (l.length + 1))] := by rw [hps, List.flatMap_append]; rfl
  have hpf : ((qN d t p s j).flatMap Enc.enc : List PV).length = j := by rw [yD, hpl]
  have hpt : ((qN d t p s j).flatMap Enc.enc : List PV).take j = (qN d t p s j).flatMap Enc.enc := List.take_of_length_le (by omega)
  clear hps hpl hall
  have hfz : ∀ id v cs, ((qN d t p s j).flatMap Enc.enc).map (zI id v cs) = ((qN d t p s j).flatMap Enc.enc : List PV) := fun id v cs => Q1 id v cs _
  generalize ((qN d t p s j).flatMap Enc.enc : List PV) = pcs at *
  refine zb (za (ze ?_))
  (repeat apply za); refine pwn ?_; intros
  refine qm 11 50 2 rfl fun v5 => ?_
  (repeat apply za); refine pwn ?_; intros
  repeat apply za
  refine ze (zq (fun s' : Nat × Nat => s'.1 ≤ l.length + 1) (fun (i, v5) => [(1, I t), (2, I p), (4, .ptr nx v0 0), (7, .ptr (nx + 1) v1 0), (8, .ptr (nx + 2) v2 0), (9, .ptr (nx + 3) v3 0), (10, I j), (11, .sl (nx + 5) v5 2 0 (qM l b p s i).length), (12, I i)]) (fun (i, v5) => [.cells v0 66 [L d], .cells v1 50 [I s.c, I s.q], .cells v2 66 [zJ], .cells v3 66 [.sl (nx + 4) v4 1 0 j], .cells v4 72 pcs, .cells v5 50 ((qM l b p s i).flatMap Enc.enc)]) (fun s' => l.length + 1 - s'.1) (0, v5) [] (by simp) (by simp [qM]) (by simp [qM]) ?_)
  rintro ⟨i, v5⟩ hi
  simp only at hi ⊢
  repeat apply za
  refine pwN [] (jn3 e0 hc hj1) ?_
  intros
  repeat apply za
  refine zk rfl (fun hci => ?_) (fun hci => ?_)
  ·simp at hci
   have hrl := VW l b p s i
   have hrs := Y7 l b p s i
   generalize qM l b p s i = r0 at *
   have wi := wrN i (by omega)
   have hrf : (r0.flatMap Enc.enc : List PV).length = r0.length * 2 := yq r0
   have hrt : (r0.flatMap Enc.enc : List PV).take (r0.length * 2) = r0.flatMap Enc.enc := List.take_of_length_le (by omega)
   refine zb (za (ze ?_))
   repeat apply za
   refine yc (nx := nx) (fun b' : Bool => b' = decide (b = true ∧ i = p)) (fun b' => [(1, I t), (2, I p), (4, .ptr nx v0 0), (7, .ptr (nx + 1) v1 0), (8, .ptr (nx + 2) v2 0), (9, .ptr (nx + 3) v3 0), (10, I j), (11, .sl (nx + 5) v5 2 0 r0.length), (12, I i), (38, B b')]) (fun _ => S) (fun _ => [.cells v0 66 [L d], .cells v1 50 [I s.c, I s.q], .cells v2 66 [zJ], .cells v3 66 [.sl (nx + 4) v4 1 0 j], .cells v4 72 pcs, .cells v5 50 (r0.flatMap Enc.enc)]) ?_ ?_
   ·by_cases h1 : j = t
    ·subst h1
     by_cases h2 : i = p
     ·subst h2
      repeat apply za
      refine pwN [(3, 34)] zr ?_
      intros
      exact zu _ [] rfl (by simp [hb]) rfl (by simp)
     ·have h2' : ¬ (i : Int) = p := by omega
      repeat apply za
      refine pwN [(3, 34)] h2' ?_
      intros
      exact zu _ [] rfl (by simp [hb, h2]) rfl (by simp)
    ·have h1' : ¬ (j : Int) = t := by omega
     repeat apply za
     refine pwN [(3, 34)] (jn2 h1' zr) ?_
     intros
     exact zu _ [] rfl (by simp [hb, h1]) rfl (by simp)
   ·rintro b' hb'
    repeat apply za
    refine yc (nx := nx) (fun s' : zn × Nat => s'.1 = r0 ++ (if b = true ∧ i = p then [s] else [])) (fun (r, v5) => [(1, I t), (2, I p), (4, .ptr nx v0 0), (7, .ptr (nx + 1) v1 0), (8, .ptr (nx + 2) v2 0), (9, .ptr (nx + 3) v3 0), (10, I j), (11, .sl (nx + 5) v5 2 0 r.length), (12, I i)]) (fun _ => S) (fun (r, v5) => [.cells v0 66 [L d], .cells v1 50 [I s.c, I s.q], .cells v2 66 [zJ], .cells v3 66 [.sl (nx + 4) v4 1 0 j], .cells v4 72 pcs, .cells v5 50 (r.flatMap Enc.enc)]) ?_ ?_
    ·by_cases hq : b = true ∧ i = p
     ·rw [decide_eq_true hq] at hb'
      subst hb'
      rw [if_pos hq]
      repeat apply za
      refine zj rfl ?_
      repeat apply za
      refine pwN [] (jn2 hrf hrt) ?_
      refine ⟨by omega, ?_⟩
      intros
      exact zu (r0 ++ [s], v5 + 1) [] rfl (by simp) rfl (by simp)
     ·rw [decide_eq_false hq] at hb'
      subst hb'
      rw [if_neg hq, List.append_nil]
      repeat apply za
      refine zi rfl ?_
      refine zb ?_
      exact zu (r0, v5) [] rfl (by simp) rfl (by simp)
    ·rintro ⟨r, v5⟩ hr
     simp only at hr ⊢
     rw [← hr] at hrs
     have hrl2 : r.length ≤ 2 * i + 1 := by rw [hr]; split <;> simp <;> omega
     clear hr
     have hrf : (r.flatMap Enc.enc : List PV).length = r.length * 2 := yq r
     have hrt : (r.flatMap Enc.enc : List PV).take (r.length * 2) = r.flatMap Enc.enc := List.take_of_length_le (by omega)
     repeat apply za
     refine pwN [] (jn3 e0 hc hj1) ?_
     intros
     repeat apply za
     refine zk rfl (fun hq => ?_) (fun hq => ?_)
     ·simp at hq
      obtain ⟨u, tu, u1, u2, u3, u4, u0⟩ := el 2 rfl l i hq
      have hi2 : 2 ≤ l.length * 2 - i * 2 := by omega
      have hgu : l.getD i default = u := by rw [List.getD_eq_getElem?_getD, u1]; rfl
      rw [if_pos hq, hgu] at hrs
      have hrc : ((qM l b p s (i + 1)).flatMap Enc.enc : List PV) = r.flatMap Enc.enc ++ [I u.c, I u.q] := by rw [hrs, List.flatMap_append]; rfl
      repeat apply za
      refine pwN [] (jn6 e0 hc hj1 u0 hq (jn3 hi2 hrf hrt)) ?_
      refine ⟨by omega, ?_⟩
      intros
      (repeat apply za); refine pwn ?_; intros
      exact zh (i + 1, v5 + 1) [] (by simp; omega) (by simp; omega) (by simp [wi, hrs]) rfl (by simp [hrc])
     ·simp at hq
      rw [if_neg (by omega), List.append_nil] at hrs
      refine zb ?_
      (repeat apply za); refine pwn ?_; intros
      exact zh (i + 1, v5) [] (by simp; omega) (by simp; omega) (by simp [wi, hrs]) rfl (by simp [hrs])
  ·simp at hci
   obtain rfl : i = l.length + 1 := by omega
   refine zo ?_
   generalize qM l b p s (l.length + 1) = r at *
   have hrf : (r.flatMap Enc.enc : List PV).length = r.length * 2 := yq r
   refine zC 5 rfl ?_
   simp only [List.map_cons, List.map_nil, List.set_cons_succ, List.set_cons_zero, yW, hfz]
   repeat apply za
   refine pwN [] (jn3 hrf hpf hpt) ?_
   refine ⟨by omega, ?_⟩
   intros
   (repeat apply za); refine pwn ?_; intros
   exact zh (j + 1, v4 + 1) [_] hc (by simp; omega) (by simp [wrN j (by omega)]) rfl (by simp [hps2]; rfl)
 ·simp at hc
  obtain rfl : j = d.length := by omega
  refine zo ?_
  have hpl := VX d t p s d.length
  generalize qN d t p s d.length = e at *
  have hpf : (e.flatMap Enc.enc : List PV).length = d.length := by rw [yD, hpl]
  have hpt : (e.flatMap Enc.enc : List PV).take d.length = e.flatMap Enc.enc := List.take_of_length_le (by omega)
  by_cases htd : t = d.length
  ·have htd' : (t : Int) = d.length := by omega
   rw [if_pos htd]
   repeat apply za
   refine pwN [] htd' ?_
   intros
   repeat apply za
   refine zj rfl ?_
   repeat apply za
   refine pwN [] (jn2 hpf hpt) ?_
   refine ⟨by omega, ?_⟩
   intros
   have hel : (e ++ [[s]]).length = d.length + 1 := by simp [hpl]
   have hec : ((e ++ [[s]]).flatMap Enc.enc : List PV) = e.flatMap Enc.enc ++ [L [s]] := by rw [List.flatMap_append]; rfl
   refine zC 4 rfl ?_
   repeat apply za
   refine pwN [] hpf ?_
   intros
   repeat apply za
   exact zd (zg hd (by simp; rfl) (by simp [zl, hel, hec, hpl]))
  ·have htd' : ¬ (t : Int) = d.length := by omega
   rw [if_neg htd, List.append_nil]
   repeat apply za
   refine pwN [] htd' ?_
   intros
   repeat apply za
   refine zi rfl ?_
   refine zb ?_
   refine zC 4 rfl ?_
   repeat apply za
   refine pwN [] hpf ?_
   intros
   repeat apply za
   exact zd (zg hd (by simp; rfl) (by simp [zl, hpl]))
open Go Go.Proofs
def JS (d : Day) (t : Nat) : List (Nat × Nat) := (List.range ((d.getD t []).length + 1)).map fun p => (t, p)
def xQ (d : Day) (t p : Nat) : List (Nat × Nat) := (List.range t).flatMap (JS d) ++ (List.range p).map fun p => (t, p)
theorem ZfZ (d : Day) (t p : Nat) : xQ d t (p + 1) = xQ d t p ++ [(t, p)] := by
 unfold xQ; rw [List.range_succ, List.map_append, List.append_assoc]; rfl
theorem Zf0 (d : Day) (t : Nat) : xQ d t ((d.getD t []).length + 1) = xQ d (t + 1) 0 := by
 unfold xQ; rw [List.range_succ (n := t), List.flatMap_append]; simp [JS]
theorem Zf1 (d : Day) : xQ d (d.length + 1) 0 = qt d := by
 unfold xQ qt; simp [JS]; rfl
theorem VZ {x : Inst} {d : Day} {s : Stop} {c : Nat × Nat} (hx : x.cust.length ≤ 1048576) (h1 : d.length ≤ 1000000) (h2 : d.flatten.length ≤ 1000000) (hc : c ∈ qt d) :
  (zN d s c).length ≤ 1048576 ∧ (∀ t ∈ zN d s c, t.length ≤ 1048576) ∧ (zN d s c).flatten.length ≤ 1048576 ∧ (zL x (zN d s c) = 0 → DayOk (zN d s c)) := by
 obtain ⟨b1, b2⟩ := Y5 (s := s) h1 h2 hc
 have b3 : ∀ t ∈ zN d s c, t.length ≤ 1048576 := fun t ht => Nat.le_trans (qC ht).length_le b1
 refine ⟨b2, b3, b1, fun h => ⟨b2, b3, fun t ht a ha => ?_⟩⟩
 have hm := ((vj x t).1 (((xk x _).1 h).1 t ht)).1
 unfold yo at hm
 simp only [Bool.and_eq_true] at hm
 exact Ji hx hm.1 a ha
def Y9 (x : Inst) (d : Day) (st : Day × Bool) : Prop := (st.2 = false → st.1 = d) ∧ (st.2 = true → DayOk st.1)
theorem Zf2 {x : Inst} {d : Day} {s : Stop} {st : Day × Bool} (h : Y9 x d st) {c : Nat × Nat} (hk : zL x (zN d s c) = 0 → DayOk (zN d s c)) : Y9 x d (xo x d s st c) := by
 unfold xo
 split
 ·rename_i h0
  split
  ·exact ⟨fun e => (by cases e), fun _ => hk h0⟩
  ·exact h
 ·exact h
set_option maxRecDepth 20000 in
set_option maxHeartbeats 1600000 in
theorem Zf3 (x : Inst) (d : Day) (s : Stop) (hx : x.cust.length ≤ 1048576) (h1 : d.length ≤ 1000000) (h2 : d.flatten.length ≤ 1000000) : Pure Tryz.prog 73 [.agg (zm x), .agg [L d], .agg [I s.c, I s.q]] (.tup [.agg [L (ZD x d s).1], B (ZD x d s).2]) := by
 have htl : ∀ l ∈ d, l.length ≤ 1000000 := fun l hl => Nat.le_trans (qC hl).length_le h2
 unfold ZD
 rw [← Zf1]
 refine pwe Tryz.func73 Tryz.ntmps73 Tryz.results73 fun S nx hd => ?_
 repeat apply za
 refine pwn ?_
 intro v0 v1 v2 v3
 repeat apply za
 refine pwn ?_
 intro v4
 (repeat apply za); refine pwn ?_; intros
 (repeat apply za); refine pwn ?_; intros
 repeat apply za
 refine ze (zq (fun s' : Nat × Day × Bool => s'.1 ≤ d.length + 1 ∧ s'.2 = (xQ d s'.1 0).foldl (xo x d s) (d, false) ∧ Y9 x d s'.2) (fun (t, b, f) => [(3, .ptr nx v0 0), (4, .ptr (nx + 1) v1 0), (5, .ptr (nx + 2) v2 0), (6, .ptr (nx + 3) v3 0), (8, .ptr (nx + 4) v4 0), (9, B f), (10, I t)]) (fun (t, b, f) => [.cells v0 25 (zm x), .cells v1 66 [L d], .cells v2 50 [I s.c, I s.q], .cells v3 66 [zJ], .cells v4 66 [L b]]) (fun s' => d.length + 1 - s'.1) (0, d, false) [] ⟨by simp, rfl, fun _ => rfl, fun e => (by cases e)⟩ (by simp) (by simp) ?_)
 rintro ⟨t, b, f⟩ ⟨ht, hst, hbo⟩
 simp only at ht hst hbo ⊢
 (repeat apply za); refine pwn ?_; intros
 repeat apply za
 refine zk rfl (fun hc => ?_) (fun hc => ?_)
 ·simp at hc
  have hc' : t ≤ d.length := by omega
  obtain ⟨n, hn⟩ : ∃ n, n = (d.getD t []).length := ⟨_, rfl⟩
  have hnb : n ≤ 1000000 := by
   rw [hn, List.getD_eq_getElem?_getD]
   cases hq : d[t]? with
   | none => simp
   | some l => exact htl l (List.mem_of_getElem? hq)
  refine zb (za (ze ?_))
  (repeat apply za); refine pwn ?_; intros
  (repeat apply za); refine pwn ?_; intros
  repeat apply za
  refine yc (nx := nx) (fun _ : Unit => True) (fun _ => [(3, .ptr nx v0 0), (4, .ptr (nx + 1) v1 0), (5, .ptr (nx + 2) v2 0), (6, .ptr (nx + 3) v3 0), (8, .ptr (nx + 4) v4 0), (9, B f), (10, I t), (11, I n)]) (fun _ => S) (fun _ => [.cells v0 25 (zm x), .cells v1 66 [L d], .cells v2 50 [I s.c, I s.q], .cells v3 66 [zJ], .cells v4 66 [L b]]) ?_ ?_
  ·repeat apply za
   refine zk rfl (fun hq => ?_) (fun hq => ?_)
   ·simp at hq
    obtain ⟨l, tl, a1, a2, a3, e0⟩ := el1 rfl d t hq
    have ht1 : 1 ≤ d.length - t := by omega
    have hnl : n = l.length := by rw [hn, List.getD_eq_getElem?_getD, a1]; rfl
    repeat apply za
    refine pwN [] (jn3 e0 hq ht1) ?_
    intros
    exact zu () [] trivial (by simp [hnl]) rfl (by simp)
   ·simp at hq
    have hnl : n = 0 := by rw [hn, List.getD_eq_getElem?_getD, List.getElem?_eq_none (by omega)]; rfl
    refine zb ?_
    exact zu () [] trivial (by simp [hnl]) rfl (by simp)
  ·rintro ⟨⟩ -
   (repeat apply za); refine pwn ?_; intros
   repeat apply za
   refine ze (zq (fun s' : Nat × Day × Bool => s'.1 ≤ n + 1 ∧ s'.2 = (xQ d t s'.1).foldl (xo x d s) (d, false) ∧ Y9 x d s'.2) (fun (p, b, f) => [(3, .ptr nx v0 0), (4, .ptr (nx + 1) v1 0), (5, .ptr (nx + 2) v2 0), (6, .ptr (nx + 3) v3 0), (8, .ptr (nx + 4) v4 0), (9, B f), (10, I t), (11, I n), (12, I p)]) (fun (p, b, f) => [.cells v0 25 (zm x), .cells v1 66 [L d], .cells v2 50 [I s.c, I s.q], .cells v3 66 [zJ], .cells v4 66 [L b]]) (fun s' => n + 1 - s'.1) (0, b, f) [] ⟨by simp, hst, hbo⟩ (by simp) (by simp) ?_)
   clear hst hbo b f
   rintro ⟨p, b, f⟩ ⟨hp, hst, hbo⟩
   simp only at hp hst hbo ⊢
   (repeat apply za); refine pwn ?_; intros
   repeat apply za
   refine zk rfl (fun hcp => ?_) (fun hcp => ?_)
   ·simp at hcp
    have hcp' : p ≤ (d.getD t []).length := by omega
    have hcand : (t, p) ∈ qt d := ZC.2 ⟨hc', hcp'⟩
    obtain ⟨k1, k2, k3, k4⟩ := VZ (s := s) hx h1 h2 hcand
    have hput := VY d t p s h1 htl hc' hcp'
    have hday := YN x (zN d s (t, p)) hx k1 k2 k3
    have hstep : xo x d s (b, f) (t, p) = (xQ d t (p + 1)).foldl (xo x d s) (d, false) := by rw [ZfZ, List.foldl_append, ← hst]; rfl
    have hbn := Zf2 (x := x) (s := s) hbo k4
    have hdef : xo x d s (b, f) (t, p) = xo x d s (b, f) (t, p) := rfl
    conv at hdef => rhs; unfold xo
    have hcst := vf x (zN d s (t, p))
    generalize zN d s (t, p) = e at *
    have wp := wrN p (by omega)
    refine zb (za (ze ?_))
    repeat apply za
    refine pwn ?_
    refine pwc hput ?_
    intro v5
    intros
    repeat apply za
    refine pwn ?_
    refine pwc hday ?_
    intros
    by_cases h0 : zL x e = 0
    case neg =>
     rw [if_neg h0] at hdef
     repeat apply za
     refine zj (by simp [h0]) ?_
     refine zo ?_
     (repeat apply za); refine pwn ?_; intros
     exact zh (p + 1, b, f) [_] ⟨by simp; omega, by rw [← hstep, hdef], by rw [← hdef]; exact hbn⟩ (by simp; omega) (by simp [wp]) rfl (by simp; rfl)
    rw [if_pos h0] at hdef
    repeat apply za
    refine zi (by simp [h0]) ?_
    refine zb ?_
    cases f with
    | false =>
     rw [if_pos (.inl rfl)] at hdef
     repeat apply za
     refine pwY (some [nx, nx + 4, nx + 5]) (Row.pures [0, 1, 2, 3, 4, 5, 6, 7, 8, 9, 10] .done) mixed zr ?_
     intros
     repeat apply za
     refine zj rfl ?_
     (repeat apply za); refine pwn ?_; intros
     (repeat apply za); refine pwn ?_; intros
     (repeat apply za); refine pwn ?_; intros
     exact zh (p + 1, e, true) [_] ⟨by simp; omega, by rw [← hstep, hdef], by rw [← hdef]; exact hbn⟩ (by simp; omega) (by simp [wp]) rfl (by simp; rfl)
    | true =>
     have hcb := vf x b (hbo.2 rfl)
     have hce := hcst (k4 h0)
     generalize hw1 : W (zA x e) = ce at *
     generalize hw2 : W (zA x b) = cb at *
     repeat apply za
     refine pwY (some [nx, nx + 4, nx + 5]) (Row.pures [0, 1, 2, 3, 4, 5, 6, 7, 8, 9, 10] .done) mixed trivial ?_
     refine pwP (hce) trivial ?_
     refine pwP (hcb) trivial ?_
     intros
     by_cases hlt : ce < cb
     ·rw [if_pos (.inr hlt)] at hdef
      repeat apply za
      refine zj (by simp [hlt]) ?_
      (repeat apply za); refine pwn ?_; intros
      (repeat apply za); refine pwn ?_; intros
      (repeat apply za); refine pwn ?_; intros
      exact zh (p + 1, e, true) [_] ⟨by simp; omega, by rw [← hstep, hdef], by rw [← hdef]; exact hbn⟩ (by simp; omega) (by simp [wp]) rfl (by simp; rfl)
     ·rw [if_neg (by simp [hlt])] at hdef
      repeat apply za
      refine zi (by simp [hlt]) ?_
      refine zb ?_
      (repeat apply za); refine pwn ?_; intros
      exact zh (p + 1, b, true) [_] ⟨by simp; omega, by rw [← hstep, hdef], by rw [← hdef]; exact hbn⟩ (by simp; omega) (by simp [wp]) rfl (by simp; rfl)
   ·simp at hcp
    obtain rfl : p = n + 1 := by omega
    rw [hn, Zf0] at hst
    refine zo ?_
    (repeat apply za); refine pwn ?_; intros
    exact zh (t + 1, b, f) [] ⟨by simp; omega, hst, hbo⟩ (by simp; omega) (by simp [wrN t (by omega)]) rfl (by simp)
 ·simp at hc
  obtain rfl : t = d.length + 1 := by omega
  refine zo ?_
  rw [← hst]
  (repeat apply za); refine pwn ?_; intros
  repeat apply za
  exact zd (zg hd (by simp; rfl) (by simp [zl]))
open Go Go.Proofs
def wx (x : Inst) (d : Day) (s : Stop) (t p : Nat) : Int × Bool := jW ((((List.range p).map fun p => (t, p)).filterMap (js x d s)).map (·.m))
theorem Zf4 (x : Inst) (d : Day) (s : Stop) (t : Nat) : wx x d s t 0 = (0, false) := rfl
theorem Zf5 (x : Inst) (d : Day) (s : Stop) (t p : Nat) : wx x d s t (p + 1) = if zL x (zN d s (t, p)) = 0 then wv (wx x d s t p) (xO x d s (t, p)) else wx x d s t p := by
 unfold wx jW
 rw [List.range_succ, List.map_append, List.filterMap_append, List.map_append, List.foldl_append]
 simp only [List.map_cons, List.map_nil, List.filterMap_cons, List.filterMap_nil]
 by_cases h : zL x (zN d s (t, p)) = 0
 ·rw [if_pos h]; unfold js; rw [if_pos h]; rfl
 ·rw [if_neg h]; unfold js; rw [if_neg h]; rfl
theorem Zf6 (x : Inst) (d : Day) (s : Stop) (t : Nat) : wx x d s t ((d.getD t []).length + 1) = jW ((xn x d s t).map (·.m)) := rfl
theorem Zf7 (x : Inst) (d : Day) (s : Stop) (t : Nat) : xP x d s (t + 1) = xP x d s t ++ (bif (jW ((xn x d s t).map (·.m))).2 then [(jW ((xn x d s t).map (·.m))).1] else []) := by
 unfold xP
 rw [List.range_succ, List.filterMap_append]
 congr 1
 cases hm : (jW ((xn x d s t).map (·.m))).2 <;> simp [hm]
theorem V1 (x : Inst) (d : Day) (s : Stop) (t : Nat) : (xP x d s t).length ≤ t := by
 unfold xP; exact Nat.le_trans (List.length_filterMap_le _ _) (by simp)
theorem Zf8 {x : Inst} (ha : ye x) {d : Day} {s : Stop} (h0 : zL x d = 0) (h1 : d.length ≤ 1000000) (h2 : d.flatten.length ≤ 1000000) {c : Nat × Nat} (hc : c ∈ qt d) :
  IntKind.i64.wrap (W (zA x (zN d s c)) - W (zA x d)) = xO x d s c := by
 obtain ⟨b1, b2⟩ := Y5 (s := s) h1 h2 hc
 have e1 := uH ha (zN d s c)
 have e2 := uH ha d
 have e3 := JP ha (s := s) hc (Y6 h0)
 rw [uI ha b1 b2, uI ha (by omega) (by omega), wr _ (by omega) (by omega)]
 omega
set_option maxRecDepth 20000 in
set_option maxHeartbeats 1600000 in
theorem Zf9 (x : Inst) (d : Day) (s : Stop) (hx : x.cust.length ≤ 1048576) (ha : ye x) (hdo : DayOk d) (h0 : zL x d = 0) (h1 : d.length ≤ 1000000) (h2 : d.flatten.length ≤ 1000000) : Pure Tryz.prog 141 [.agg (zm x), .agg [L d], .agg [I s.c, I s.q]] (L (ww x d s)) := by
 have htl : ∀ l ∈ d, l.length ≤ 1000000 := fun l hl => Nat.le_trans (qC hl).length_le h2
 have hcd := vf x d hdo
 unfold ww
 refine pwe Tryz.func141 Tryz.ntmps141 Tryz.results141 fun S nx hd => ?_
 repeat apply za
 refine pwn ?_
 intro v0 v1 v2
 (repeat apply za); refine pwn ?_; intros
 refine za (Yu 7 rfl ?_)
 repeat apply za
 refine pwn ?_
 refine pwc hcd ?_
 intros
 (repeat apply za); refine pwn ?_; intros
 repeat apply za
 refine ze (zq (fun s' : Nat × List Int => s'.1 ≤ d.length + 1 ∧ s'.2 = zQ (xP x d s s'.1)) (fun (t, out) => [(3, .ptr nx v0 0), (4, .ptr (nx + 1) v1 0), (5, .ptr (nx + 2) v2 0), (7, L out), (8, I (W (zA x d))), (9, I t)]) (fun (t, out) => [.cells v0 25 (zm x), .cells v1 66 [L d], .cells v2 50 [I s.c, I s.q]]) (fun s' => d.length + 1 - s'.1) (0, []) [] ⟨by simp, by simp [xP]⟩ (by simp) (by simp) ?_)
 rintro ⟨t, out⟩ ⟨ht, ho⟩
 simp only at ht ho ⊢
 have hol : out.length ≤ t := by rw [ho, wL]; exact V1 x d s t
 (repeat apply za); refine pwn ?_; intros
 repeat apply za
 refine zk rfl (fun hc => ?_) (fun hc => ?_)
 ·simp at hc
  have hc' : t ≤ d.length := by omega
  obtain ⟨n, hn⟩ : ∃ n, n = (d.getD t []).length := ⟨_, rfl⟩
  have hnb : n ≤ 1000000 := by
   rw [hn, List.getD_eq_getElem?_getD]
   cases hq : d[t]? with
   | none => simp
   | some l => exact htl l (List.mem_of_getElem? hq)
  refine zb (za (ze ?_))
  (repeat apply za); refine pwn ?_; intros
  (repeat apply za); refine pwn ?_; intros
  repeat apply za
  refine yc (nx := nx) (fun _ : Unit => True) (fun _ => [(3, .ptr nx v0 0), (4, .ptr (nx + 1) v1 0), (5, .ptr (nx + 2) v2 0), (7, L out), (8, I (W (zA x d))), (9, I t), (10, I n)]) (fun _ => S) (fun _ => [.cells v0 25 (zm x), .cells v1 66 [L d], .cells v2 50 [I s.c, I s.q]]) ?_ ?_
  ·repeat apply za
   refine zk rfl (fun hq => ?_) (fun hq => ?_)
   ·simp at hq
    obtain ⟨l, tl, a1, a2, a3, e0⟩ := el1 rfl d t hq
    have ht1 : 1 ≤ d.length - t := by omega
    have hnl : n = l.length := by rw [hn, List.getD_eq_getElem?_getD, a1]; rfl
    repeat apply za
    refine pwN [] (jn3 e0 hq ht1) ?_
    intros
    exact zu () [] trivial (by simp [hnl]) rfl (by simp)
   ·simp at hq
    have hnl : n = 0 := by rw [hn, List.getD_eq_getElem?_getD, List.getElem?_eq_none (by omega)]; rfl
    refine zb ?_
    exact zu () [] trivial (by simp [hnl]) rfl (by simp)
  ·rintro ⟨⟩ -
   (repeat apply za); refine pwn ?_; intros
   (repeat apply za); refine pwn ?_; intros
   (repeat apply za); refine pwn ?_; intros
   repeat apply za
   refine ze (zq (fun p : Nat => p ≤ n + 1) (fun p => [(3, .ptr nx v0 0), (4, .ptr (nx + 1) v1 0), (5, .ptr (nx + 2) v2 0), (7, L out), (8, I (W (zA x d))), (9, I t), (10, I n), (11, I (wx x d s t p).1), (12, B (wx x d s t p).2), (13, I p)]) (fun p => [.cells v0 25 (zm x), .cells v1 66 [L d], .cells v2 50 [I s.c, I s.q]]) (fun p => n + 1 - p) 0 [] (by simp) (by simp [Zf4]) (by simp) ?_)
   rintro p hp
   (repeat apply za); refine pwn ?_; intros
   repeat apply za
   refine zk rfl (fun hcp => ?_) (fun hcp => ?_)
   ·simp at hcp
    have hcp' : p ≤ (d.getD t []).length := by omega
    have hcand : (t, p) ∈ qt d := ZC.2 ⟨hc', hcp'⟩
    obtain ⟨k1, k2, k3, k4⟩ := VZ (s := s) hx h1 h2 hcand
    have hput := VY d t p s h1 htl hc' hcp'
    have hday := YN x (zN d s (t, p)) hx k1 k2 k3
    have hcst := vf x (zN d s (t, p))
    have hmw := Zf8 ha (s := s) h0 h1 h2 hcand
    have hms := Zf5 x d s t p
    generalize zN d s (t, p) = e at *
    generalize xO x d s (t, p) = by_ at *
    have wp := wrN p (by omega)
    refine zb (za (ze ?_))
    repeat apply za
    refine pwn ?_
    refine pwc hput ?_
    intro v5
    intros
    repeat apply za
    refine pwn ?_
    refine pwc hday ?_
    intros
    by_cases h0' : zL x e = 0
    case neg =>
     rw [if_neg h0'] at hms
     repeat apply za
     refine zj (by simp [h0']) ?_
     refine zo ?_
     (repeat apply za); refine pwn ?_; intros
     exact zh (p + 1) [_] (by omega) (by omega) (by simp [wp, hms]) rfl (by simp; rfl)
    rw [if_pos h0'] at hms
    repeat apply za
    refine zi (by simp [h0']) ?_
    refine zb ?_
    have hce := hcst (k4 h0')
    repeat apply za
    refine pwn ?_
    refine pwC [] hce hmw ?_
    intros
    generalize hmp : wx x d s t p = mp at *
    obtain ⟨b, f⟩ := mp
    unfold wv at hms
    simp only at hms ⊢
    cases f with
    | false =>
     rw [if_pos (.inl rfl)] at hms
     repeat apply za
     refine pwN [(2, 61)] zr ?_
     intros
     repeat apply za
     refine zj rfl ?_
     (repeat apply za); refine pwn ?_; intros
     (repeat apply za); refine pwn ?_; intros
     (repeat apply za); refine pwn ?_; intros
     exact zh (p + 1) [_] (by omega) (by omega) (by simp [wp, hms]) rfl (by simp; rfl)
    | true =>
     by_cases hlt : by_ < b
     ·rw [if_pos (.inr hlt)] at hms
      repeat apply za
      refine pwN [(2, 61)] hlt ?_
      intros
      repeat apply za
      refine zj rfl ?_
      (repeat apply za); refine pwn ?_; intros
      (repeat apply za); refine pwn ?_; intros
      (repeat apply za); refine pwn ?_; intros
      exact zh (p + 1) [_] (by omega) (by omega) (by simp [wp, hms]) rfl (by simp; rfl)
     ·rw [if_neg (by simp [hlt])] at hms
      repeat apply za
      refine pwN [(2, 61)] hlt ?_
      intros
      repeat apply za
      refine zi rfl ?_
      refine zb ?_
      (repeat apply za); refine pwn ?_; intros
      exact zh (p + 1) [_] (by omega) (by omega) (by simp [wp, hms]) rfl (by simp; rfl)
   ·simp at hcp
    obtain rfl : p = n + 1 := by omega
    have hmall := Zf6 x d s t
    rw [← hn] at hmall
    have hms := Zf7 x d s t
    rw [← hmall] at hms
    generalize wx x d s t (n + 1) = mp at *
    obtain ⟨b, f⟩ := mp
    simp only at hms ⊢
    have wt := wrN t (by omega)
    refine zo ?_
    (repeat apply za); refine pwn ?_; intros
    cases f with
    | false =>
     simp only [cond_false, List.append_nil] at hms
     repeat apply za
     refine zi rfl ?_
     refine zb ?_
     (repeat apply za); refine pwn ?_; intros
     exact zh (t + 1, out) [] ⟨by simp; omega, by rw [hms, ho]⟩ (by simp; omega) (by simp [wt]) rfl (by simp)
    | true =>
     simp only [cond_true] at hms
     repeat apply za
     refine zj rfl ?_
     (repeat apply za); refine pwn ?_; intros
     repeat apply za
     refine yc (nx := nx) (fun j : Nat => j ≤ out.length ∧ (∀ (j' : Nat) z, j ≤ j' → out[j']? = some z → b < z) ∧ (j = 0 ∨ ∃ z, out[j - 1]? = some z ∧ z ≤ b)) (fun j => [(3, .ptr nx v0 0), (4, .ptr (nx + 1) v1 0), (5, .ptr (nx + 2) v2 0), (7, L out), (8, I (W (zA x d))), (9, I t), (11, I b), (16, I j)]) (fun _ => S) (fun _ => [.cells v0 25 (zm x), .cells v1 66 [L d], .cells v2 50 [I s.c, I s.q]]) ?_ ?_
     ·refine ze (zq (fun j : Nat => j ≤ out.length ∧ (∀ (j' : Nat) z, j ≤ j' → out[j']? = some z → b < z)) (fun j => [(3, .ptr nx v0 0), (4, .ptr (nx + 1) v1 0), (5, .ptr (nx + 2) v2 0), (7, L out), (8, I (W (zA x d))), (9, I t), (11, I b), (16, I j)]) (fun _ => [.cells v0 25 (zm x), .cells v1 66 [L d], .cells v2 50 [I s.c, I s.q]]) (fun j => j) out.length [] ⟨Nat.le_refl _, fun j' z q1 q2 => by have := (List.getElem?_eq_some_iff.1 q2).1; omega⟩ (by simp) (by simp) ?_)
      rintro j ⟨hj, hj2⟩
      by_cases hz : 0 < j
      ·obtain ⟨m, rfl⟩ : ∃ m, j = m + 1 := ⟨j - 1, by omega⟩
       obtain ⟨z, tz, c1, c2, c3, g0⟩ := el1 rfl out m (by omega)
       have wm : IntKind.i64.wrap (m : Int) = m := wr _ (by omega) (by omega)
       have hm1 : m < out.length := by omega
       have hm2 : (0 : Int) < (m : Int) + 1 := by omega
       have hm3 : 1 ≤ out.length - m := by omega
       by_cases hgt : b < z
       ·repeat apply za
        refine pwN [(2, 72)] (jn6 wm hm1 hm2 g0 hm3 hgt) ?_
        intros
        repeat apply za
        refine zj rfl ?_
        refine zb (ze ?_)
        repeat apply za
        refine pwN [] wm ?_
        intros
        refine zh m [] ⟨by omega, fun j' z' q1 q2 => ?_⟩ (by simp) (by simp [wm]) rfl (by simp)
        by_cases e : j' = m
        ·subst e; rw [c1] at q2; cases q2; exact hgt
        ·exact hj2 j' z' (by omega) q2
       ·repeat apply za
        refine pwN [(2, 72)] (jn6 wm hm1 hm2 g0 hm3 hgt) ?_
        intros
        repeat apply za
        refine zi rfl ?_
        refine zo ?_
        exact zu (m + 1) [] ⟨hj, hj2, .inr ⟨z, c1, by omega⟩⟩ (by simp) rfl (by simp)
      ·obtain rfl : j = 0 := by omega
       repeat apply za
       refine pwN [(2, 72)] zr ?_
       intros
       repeat apply za
       refine zi rfl ?_
       refine zo ?_
       exact zu 0 [] ⟨hj, hj2, .inl rfl⟩ (by simp) rfl (by simp)
     ·rintro j ⟨hj, hj1, hj2⟩
      have hnew := ZfU ho hj hj1 hj2
      rw [← hms] at hnew
      have htk3 : (out.flatMap Enc.enc : List PV).take j = (out.take j).flatMap Enc.enc := by have := jM Enc.enc 1 (fun _ => rfl) out j; simpa using this
      have hdr3 : (out.flatMap Enc.enc : List PV).drop j = (out.drop j).flatMap Enc.enc := by have := j6 Enc.enc 1 (fun _ => rfl) out j; simpa using this
      (repeat apply za); refine pwn ?_; intros
      refine za (qm 17 3 1 rfl fun v5 => ?_)
      repeat apply za
      refine pwN [] (jn2 htk3 hj) ?_
      refine ⟨by omega, ?_⟩
      intros
      have hjl : (out.take j).length = j := by simp; omega
      have hfl : ((out.take j).flatMap Enc.enc : List PV).length = j := by rw [qn, hjl]
      have hjm : min j out.length = j := by omega
      have htt : ((out.take j).flatMap Enc.enc : List PV).take j = (out.take j).flatMap Enc.enc := List.take_of_length_le (by omega)
      have hw1 : ((out.take j).flatMap Enc.enc ++ [I b] : List PV).length = j + 1 := by simp [hfl]; omega
      have hw2 : ((out.take j).flatMap Enc.enc ++ [I b] : List PV).take (j + 1) = (out.take j).flatMap Enc.enc ++ [I b] := List.take_of_length_le (by omega)
      repeat apply za
      refine pwN [] (jn3 hfl hjm htt) ?_
      refine ⟨by omega, ?_⟩
      intros
      repeat apply za
      refine pwN [] (jn4 hdr3 hj hw1 hw2) ?_
      refine ⟨by omega, ?_⟩
      intros
      refine zC 3 rfl ?_
      (repeat apply za); refine pwn ?_; intros
      have hol2 : (out.take j ++ b :: out.drop j).length = out.length + 1 := by simp; omega
      refine zh (t + 1, out.take j ++ b :: out.drop j) [_] ⟨by simp; omega, hnew⟩ (by simp; omega) ?_ rfl (by simp; rfl)
      simp [wt, hol2]
      have x1 : j + 1 + (out.length - j) = out.length + 1 := by omega
      have x2 : ((out.drop j).flatMap Enc.enc : List PV).take (out.length - j) = (out.drop j).flatMap Enc.enc := List.take_of_length_le (by rw [qn]; simp)
      rw [if_pos (by omega), x2, x1]
      simp [hol2]
 ·simp at hc
  obtain rfl : t = d.length + 1 := by omega
  refine zo ?_
  rw [← ho]
  (repeat apply za); refine pwn ?_; intros
  repeat apply za
  exact zd (zg hd (by simp; rfl) (by simp [zl]))
open Go Go.Proofs
theorem Sim.drewN {C : Ctx} {S : Store} {w : World} (h : Sim C S w) : ∀ q : Nat, Sim C S (w.drewN q) ∧ Step C S w C S (w.drewN q)
 | 0 => by
  have e : w.drewN 0 = w := rfl
  rw [e]; exact ⟨h, .refl _ _ _⟩
 | q + 1 => by
  obtain ⟨a, b⟩ := Sim.drewN h q
  obtain ⟨c, d⟩ := a.drew
  have e : w.drewN (q + 1) = (w.drewN q).drew := by unfold World.drewN World.drew; simp [Nat.add_assoc]
  rw [e]
  exact ⟨c, b.trans d⟩
theorem Zga (zs : List Int) (c : Int) (hn : zs.length ≤ 1048576) (hs : zs.Pairwise (· ≤ ·)) : Pure Tryz.prog 148 [L zs, I c] (.tup [I (zs.countP (· < c) : Nat), B (zs.contains c)]) := by
 intro S
 refine ⟨yG Tryz.func148 (by rfl) rfl, ?_⟩
 intro C w vs hS hl hr
 obtain ⟨u, v, rfl⟩ : ∃ u v, vs = #[u, v] := Vb hl
 obtain rfl := vO (hr 1 _ v rfl rfl)
 have h0 : Rel C S w (.lst zs.length (zs.flatMap Enc.enc)) u := hr 0 _ u rfl rfl
 have hret : ∀ (k : Int) (b : Bool), Rel C S w (.tup [I k, B b]) (.tuple #[.int .i64 k, .bool b]) := by
  intro k b
  refine .tup rfl ?_
  intro i p v hc hv
  match i with
  | 0 => have hc : some (I k) = some p := hc; have hv : some (Value.int .i64 k) = some v := hv; cases hc; cases hv; exact .sc _
  | 1 => have hc : some (B b) = some p := hc; have hv : some (Value.bool b) = some v := hv; cases hc; cases hv; exact .sc _
  | i + 2 => simp at hc
 rw [YG] at h0
 generalize hcs : zs.map I = cs at h0
 generalize hzl : zs.length = n at h0 hn
 cases h0 with
 | lst0 =>
  obtain rfl : zs = [] := List.eq_nil_of_length_eq_zero hzl
  refine (Tryz.slices_BinarySearch_int_empty _ _ c w).mono ?_
  rintro e w' ⟨rfl, rfl⟩
  exact ⟨_, _, _, _, rfl, ⟨rfl, rfl⟩, hret 0 false, hS, .refl _ _ _⟩
 | lst1 g1 g2 g3 g4 g5 g6 g7 =>
  rename_i cap b o ca e fz
  by_cases hz : zs = []
  ·subst hz
   simp at hzl
   subst hzl
   refine (Tryz.slices_BinarySearch_int_empty _ _ c w).mono ?_
   rintro e w' ⟨rfl, rfl⟩
   exact ⟨_, _, _, _, rfl, ⟨rfl, rfl⟩, hret 0 false, hS, .refl _ _ _⟩
  ·subst hcs
   have g5' := g5 (by simpa using hz)
   rw [List.length_map] at g5'
   have hcell : ∀ j, j < zs.length → w.cell? ⟨b, o + j, none⟩ = some (.int .i64 (zs.getD j 0)) := by
    intro j hj
    have e2 : ca[o + j]? = some ca[o + j] := by rw [Array.getElem?_eq_getElem]
    have e3 := vO (g7 j (I (zs.getD j 0)) _ (by simp [hj]) e2)
    rw [e3] at e2
    simp [World.cell?, g3, e2]
   refine (Tryz.slices_BinarySearch_int b o n cap zs c w (by omega) (by omega) hcell (hs.sublist (List.take_sublist _ _))).mono ?_
   rintro e w' ⟨rfl, q, rfl⟩
   obtain ⟨s1, s2⟩ := hS.drewN q
   rw [List.take_of_length_le (by omega)]
   exact ⟨_, _, _, _, rfl, ⟨rfl, rfl⟩, (hret _ _).mono s2, s1, s2⟩
theorem Zgb {n k : Nat} (hk : k < n) (W : Nat → List Spot) (E : List Spot) (i : Nat) (x : List PV) (h : ((W k).map xN)[i]? = some x) : (((List.range n).flatMap W ++ E).map xN)[((List.range k).flatMap W).length + i]? = some x := by
 obtain ⟨m, rfl⟩ : ∃ m, n = k + (m + 1) := ⟨n - k - 1, by omega⟩
 rw [List.getElem?_map] at h ⊢
 rw [List.range_add, List.flatMap_append, List.append_assoc, List.getElem?_append_right (Nat.le_add_right _ _), Nat.add_sub_cancel_left, List.range_succ_eq_map]
 have hi : i < (W k).length := by
  rcases Nat.lt_or_ge i (W k).length with e | e
  ·exact e
  ·rw [List.getElem?_eq_none e] at h; cases h
 rw [List.getElem?_append_left (by simp; omega)]
 simp only [List.map_cons, List.flatMap_cons, Nat.add_zero]
 rw [List.getElem?_append_left (by omega)]
 exact h
theorem Zgc (W : Nat → List Spot) (k : Nat) : ((List.range (k + 1)).flatMap W).length = ((List.range k).flatMap W).length + (W k).length := by
 rw [List.range_succ, List.flatMap_append, List.length_append]; simp
theorem Zgd (l : List Int) (c : Int) : (zQ l).contains c = l.contains c := by
 rw [Bool.eq_iff_iff, List.contains_iff_mem, List.contains_iff_mem]
 exact (List.mergeSort_perm l _).mem_iff
theorem V2 {x : Inst} {s : Stop} (hx : x.cust.length ≤ 1048576) (h : zp x [s] ≠ 1) : small s.c := by
 have := VG h
 unfold qj at this
 simp only [Bool.and_eq_true, decide_eq_true_eq] at this
 unfold small; omega
set_option maxRecDepth 20000 in
set_option maxHeartbeats 1600000 in
theorem V3 (x : Inst) (d : Day) (s : Stop) (hx : x.cust.length ≤ 1048576) (hdo : DayOk d) (hf : d.flatten.length ≤ 1048576) : vK Tryz.prog 147 [.ip [I s.c, I s.q], .ip (xM x d)] ((zX x d s).map xN) := by
 have hmay := Zu x [s] hx (by simp)
 have hse := Zga (zQ (d.flatten.map (·.c))) s.c (by rw [wL, List.length_map]; exact hf) (vQ _)
 rw [Zgd] at hse
 generalize ((zQ (d.flatten.map (·.c))).countP (· < s.c) : Nat) = cnt at hse
 obtain ⟨tw, htw⟩ : ∃ tw, tw = decide (¬ (zQ (d.flatten.map (·.c))).Nodup) := ⟨_, rfl⟩
 have htw' : tw = decide (¬ (d.flatten.map (·.c)).Nodup) := by rw [htw]; exact decide_eq_decide.2 (not_congr (List.mergeSort_perm _ _).nodup_iff)
 obtain ⟨th, hth⟩ : ∃ th, th = (d.flatten.map (·.c)).contains s.c := ⟨_, rfl⟩
 rw [← hth] at hse
 have hlk : xM x d = xi x d (zQ (d.flatten.map (·.c))) tw (d.map (zp x)) (zW x d) (d.map yQ) (d.map (yP x)) := by rw [htw]
 rw [hlk]
 obtain ⟨on, hon⟩ : ∃ on, on = zQ (d.flatten.map (·.c)) := ⟨_, rfl⟩
 rw [← hon] at hse ⊢
 obtain ⟨fa, hfa⟩ : ∃ fa, fa = zp x [s] := ⟨_, rfl⟩
 rw [← hfa] at hmay
 have hdn := hdo.n
 refine Yz Tryz.func147 (by rfl) rfl Tryz.ntmps147 (congrArg Array.toList Tryz.results147) (by simp) fun l V keep nx J hJd hY A0 hA0 => ?_
 repeat apply za
 refine pwY (some []) (Row.pures [0, 1, 2, 3, 4, 5] (.alt 6 (.alt 7 (Row.pures [8] .done) .stop) .stop)) mixed trivial ?_
 refine pwP (Jm s) trivial ?_
 intro v0
 intros
 repeat apply za
 refine pwn ?_
 refine pwc hmay ?_
 intros
 repeat apply za
 refine pwn ?_
 refine pwc hse ?_
 intros
 by_cases hout : zp x [s] = 1 ∨ s.c ∈ d.flatten.map (·.c) ∨ ¬ (d.flatten.map (·.c)).Nodup ∨ x.veh < d.length
 ·have hz : zX x d s = [] := by unfold zX; rw [if_pos hout]
  rw [hz] at hY ⊢
  by_cases h1 : fa = 1
  ·repeat apply za
   refine pwN [(2, 30), (5, 33), (9, 37)] (jn2 h1 zr) ?_
   intros
   repeat apply za
   refine zj rfl ?_
   exact zd (xJ (hJd _ _ hA0) rfl (by simpa using hA0))
  cases h2 : th with
  | true =>
   repeat apply za
   refine pwN [(2, 30), (5, 33), (9, 37)] (jn2 h1 zr) ?_
   intros
   repeat apply za
   refine zj rfl ?_
   exact zd (xJ (hJd _ _ hA0) rfl (by simpa using hA0))
  | false =>
   cases h3 : tw with
   | true =>
    repeat apply za
    refine pwN [(2, 30), (5, 33), (9, 37)] (jn2 h1 zr) ?_
    intros
    repeat apply za
    refine zj rfl ?_
    exact zd (xJ (hJd _ _ hA0) rfl (by simpa using hA0))
   | false =>
    have h4 : x.veh < d.length := by
     rcases hout with e | e | e | e
     ·exact absurd (hfa.trans e) h1
     ·have : th = true := by rw [hth, List.contains_iff_mem]; exact e
      rw [h2] at this; cases this
     ·have : tw = true := by rw [htw']; exact decide_eq_true e
      rw [h3] at this; cases this
     ·exact e
    repeat apply za
    refine pwN [(2, 30), (5, 33), (9, 37)] (jn3 h1 h4 zr) ?_
    intros
    repeat apply za
    refine zj rfl ?_
    exact zd (xJ (hJd _ _ hA0) rfl (by simpa using hA0))
 have h1 : ¬ fa = 1 := fun e => hout (.inl (hfa ▸ e))
 have h2 : th = false := by
  cases e : th with
  | false => rfl
  | true => rw [hth, List.contains_iff_mem] at e; exact absurd (.inr (.inl e)) hout
 have h3 : tw = false := by
  cases e : tw with
  | false => rfl
  | true => rw [htw'] at e; exact absurd (.inr (.inr (.inl (of_decide_eq_true e)))) hout
 have h4 : ¬ x.veh < d.length := fun e => hout (.inr (.inr (.inr e)))
 have hsm := V2 hx (s := s) (fun e => hout (.inl e))
 obtain ⟨WW, hWW⟩ : ∃ WW : Nat → List Spot, WW = fun t => xA x t (d.getD t []) (zp x (d.getD t [])) (zW x d) (yQ (d.getD t [])) (yP x (d.getD t [])) s := ⟨_, rfl⟩
 obtain ⟨EE, hEE⟩ : ∃ EE : List Spot, EE = if zW x d = 0 ∧ zp x [s] = 0 ∧ (d.length : Int) < x.veh then [⟨d.length, 0, W (zB x [s.c])⟩] else [] := ⟨_, rfl⟩
 have hz : zX x d s = (List.range d.length).flatMap WW ++ EE := by unfold zX; rw [if_neg hout, hWW, hEE]
 rw [hz] at hY ⊢
 subst h2 h3
 repeat apply za
 refine pwN [(2, 30), (5, 33), (9, 37)] (jn3 h1 h4 zr) ?_
 intros
 repeat apply za
 refine zi rfl ?_
 refine zb ?_
 (repeat apply za); refine pwn ?_; intros
 repeat apply za
 refine ze (qS (σ := Nat × Store) (fun s' => s'.1 ≤ d.length ∧ J ((List.range s'.1).flatMap WW).length s'.2) (fun s' => [(0, yld l), (1, .ip [I s.c, I s.q]), (2, .ip (xi x d on false (d.map (zp x)) (zW x d) (d.map yQ) (d.map (yP x)))), (4, .ptr nx v0 0), (5, I d.length), (6, I fa), (44, I d.length), (45, I s'.1)]) (fun s' => s'.2)
  (fun _ => [.cells v0 72 [L [s]]]) (fun s' => d.length - s'.1) (zu (0, A0) [] (by simpa using hA0) (by simp) rfl (by simp)) ?_)
 rintro ⟨k, A⟩ ⟨hk, hJ⟩
 simp only at hk hJ ⊢
 (repeat apply za); refine pwn ?_; intros
 repeat apply za
 refine zk rfl (fun hc => ?_) (fun hc => ?_)
 ·simp at hc
  have hdk : d[k]? = some d[k] := List.getElem?_eq_getElem hc
  have hg : d.getD k [] = d[k] := by rw [List.getD_eq_getElem?_getD, hdk]; rfl
  have hb : zp x d[k] = 13 → 0 < zW x d := by
   intro e
   rcases Nat.eq_zero_or_pos (zW x d) with q | q
   ·rw [vk.1 q _ (List.getElem_mem hc)] at e; cases e
   ·exact q
  have hw := Zfy x d on false (d.map (zp x)) (zW x d) (d.map yQ) (d.map (yP x)) k d[k] s (zp x d[k]) (yQ d[k]) (yP x d[k]) (Nat.le_trans (Vr x d) hdn) hdn hdk (by rw [List.getElem?_map, hdk]; rfl) (by rw [List.getElem?_map, hdk]; rfl) (by rw [List.getElem?_map, hdk]; rfl) (by simp) (by simp) (by simp) hb (hdo.t _ (List.getElem_mem hc)) (hdo.s _ (List.getElem_mem hc)) hsm
  have hWk : WW k = xA x k d[k] (zp x d[k]) (zW x d) (yQ d[k]) (yP x d[k]) s := by rw [hWW]; simp only [hg]
  rw [← hWk] at hw
  have hlen := Zgc WW k
  refine zb (za (ze ?_))
  (repeat apply za); refine pwn ?_; intros
  repeat apply za
  refine zM [] (by rfl) (by rfl) fun K Gc Gh hK hGc hGh X hX0 hX => ?_
  simp -implicitDefEqProofs [hX0, hX]
  try clear hX0 hX X
  refine hGc _ _ _ _ _ _ _ fun hsuf => ((Vu hw keep hY _ (Zgb hc WW EE) hJ _).mono ?_)
  rintro _ _ ⟨A', rfl, hJ', rfl⟩
  rw [List.length_map, ← hlen] at hJ'
  refine ⟨_, _, rfl, ?_⟩
  clear hGc hGh
  clear Gc Gh
  refine zK hsuf (D := []) (by rfl) fun Gc Gh hGc hGh X hX0 hX => ?_
  simp -implicitDefEqProofs [hX0, hX]
  clear hX0 hX X
  intros
  refine hK _ _ _ ?_
  clear hK hGc hGh
  clear K Gc Gh
  repeat apply za
  refine zi rfl ?_
  refine zb ?_
  (repeat apply za); refine pwn ?_; intros
  exact zh (k + 1, A') [] ⟨hc, hJ'⟩ (by simp; omega) (by simp [wrN k (by omega)]) rfl (by simp)
 ·simp at hc
  obtain rfl : k = d.length := by omega
  refine zo ?_
  by_cases he : zW x d = 0 ∧ zp x [s] = 0 ∧ (d.length : Int) < x.veh
  ·have hE : EE = [⟨d.length, 0, W (zB x [s.c])⟩] := by rw [hEE, if_pos he]
   obtain ⟨e1, e2, e3⟩ := he
   have hlw := Zs x [s] (by simp) (by simpa using hsm)
   have h5 : fa = 0 := hfa.trans e2
   have hy : (((List.range d.length).flatMap WW ++ EE).map xN)[((List.range d.length).flatMap WW).length]? = some (xN ⟨d.length, 0, W (zB x [s.c])⟩) := by
    rw [List.getElem?_map, List.getElem?_append_right (Nat.le_refl _), Nat.sub_self, hE]; rfl
   simp only [List.map_cons, List.map_nil] at hlw
   repeat apply za
   refine pwN [(3, 58), (7, 62)] (jn4 e1 h5 e3 zr) ?_
   intros
   repeat apply za
   refine zj rfl ?_
   repeat apply za
   refine zM [] (by rfl) (by rfl) fun K Gc Gh hK hGc hGh X hX0 hX => ?_
   simp -implicitDefEqProofs [hX0, hX]
   try clear hX0 hX X
   refine hGc _ _ _ _ _ _ _ fun hsuf => ((hlw _).mono ?_).v
   rintro _ _ ⟨rfl, rfl⟩
   refine ⟨_, _, rfl, ?_⟩
   clear hGc hGh
   clear Gc Gh
   refine zK hsuf (D := []) (by rfl) fun Gc Gh hGc hGh X hX0 hX => ?_
   simp -implicitDefEqProofs [hX0, hX]
   try clear hX0 hX X
   refine hGh _ _ _ _ _ fun hsuf => Zj rfl rfl rfl (hY _ _ _ _ hy hJ) ?_
   rintro _ ⟨A', hJ', rfl⟩
   refine ⟨_, _, rfl, ?_⟩
   clear hGc hGh
   clear Gc Gh
   refine zK hsuf (D := []) (by rfl) fun Gc Gh hGc hGh X hX0 hX => ?_
   simp -implicitDefEqProofs [hX0, hX]
   try clear hX0 hX X
   intros
   refine hK _ _ _ ?_
   clear hK hGc hGh
   clear K Gc Gh
   exact xJ (hJd _ _ hJ') rfl (by rw [List.length_map, List.length_append, hE]; exact hJ')
  ·have hE : EE = [] := by rw [hEE, if_neg he]
   have hfin : J (((List.range d.length).flatMap WW ++ EE).map xN).length A := by rw [hE, List.append_nil, List.length_map]; exact hJ
   by_cases e1 : zW x d = 0
   ·by_cases e2 : fa = 0
    ·have e3 : ¬ (d.length : Int) < x.veh := fun e => he ⟨e1, hfa ▸ e2, e⟩
     repeat apply za
     refine pwN [(3, 58), (7, 62)] (jn4 e1 e2 e3 zr) ?_
     intros
     repeat apply za
     refine zi rfl ?_
     refine zb ?_
     exact xJ (hJd _ _ hJ) rfl hfin
    ·repeat apply za
     refine pwN [(3, 58), (7, 62)] (jn3 e1 e2 zr) ?_
     intros
     repeat apply za
     refine zi rfl ?_
     refine zb ?_
     exact xJ (hJd _ _ hJ) rfl hfin
   ·repeat apply za
    refine pwN [(3, 58), (7, 62)] (jn2 e1 zr) ?_
    intros
    repeat apply za
    refine zi rfl ?_
    refine zb ?_
    exact xJ (hJd _ _ hJ) rfl hfin
end Go.Proofs.YtaiplainginmaaaGreat.Pv
