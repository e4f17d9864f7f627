/- Whether an instance may be: inst.May and tranterref06.May tell the same. -/
import Derived.Test.YtlkcdaeknioanaaGreatLe
import Derived.Test.YtlkcdaeknioanaaGreatIh
import Derived.Test.YtlkcdaeknioanaaGreatJd
namespace Go.Proofs.YtlkcdaeknioanaaGreat.Pv
open Go

def distR (n : Nat) : Nat → List (List Int) → Bool
  | _, [] => true
  | a, row :: l => (decide (row.length = n) && decide (row.getD a 0 = 0) && row.all (fromB · 0 2147483648)) && distR n (a + 1) l
def distB (l : List (List Int)) (n : Nat) : Bool := decide (l.length = n) && distR n 0 l
def mayI (x : Inst) : Bool :=
  fromB x.days 1 64 && decide (x.cust.length ≤ 2000) && fromB x.veh 0 2147483648 && fromB x.cap 0 2147483648 && fromB x.len 0 2147483648 && x.cust.all (custMayB · x.days) && distB x.dist (x.cust.length + 1)

set_option maxRecDepth 20000 in
theorem distMay_ok (l : List (List Int)) (n : Nat) (hn : n ≤ 1048576) (_ : l.length ≤ 9223372036854775807) (hr : ∀ r ∈ l, r.length ≤ 9223372036854775807) : Pure Tryz.prog 50 [L l, I n] (B (distB l n)) := by
  refine pure_enter Tryz.func50 (by rfl) rfl Tryz.ntmps50 (congrArg Array.toList Tryz.results50) (by simp) fun S nx hd => ?_
  repeat refine pw_seq ?_
  refine pw_N [] (by rfl) (by rfl) fun K Gc Gh hK hGc hGh X hX0 hX => ?_
  simp -implicitDefEqProofs [hX0, hX]
  try clear hX0 hX X
  intros
  refine hK _ _ _ ?_
  clear hK hGc hGh
  clear K Gc Gh
  by_cases hln : l.length = n
  · have h1 : ((l.length : Int) = n) := by omega
    repeat refine pw_seq ?_
    refine pw_N [] (by rfl) (by rfl) fun K Gc Gh hK hGc hGh X hX0 hX => ?_
    simp -implicitDefEqProofs [hX0, hX, h1]
    try clear hX0 hX X
    intros
    refine hK _ _ _ ?_
    clear hK hGc hGh
    clear K Gc Gh
    repeat refine pw_seq ?_
    refine pw_cf (by simp) ?_
    refine pw_skip ?_
    repeat refine pw_seq ?_
    refine pw_N [] (by rfl) (by rfl) fun K Gc Gh hK hGc hGh X hX0 hX => ?_
    simp -implicitDefEqProofs [hX0, hX]
    try clear hX0 hX X
    intros
    refine hK _ _ _ ?_
    clear hK hGc hGh
    clear K Gc Gh
    repeat refine pw_seq ?_
    refine pw_block (pw_loopL (fun s : Nat => s ≤ l.length ∧ distR n 0 l = distR n s (l.drop s)) (fun k => [(0, L l), (1, I n), (13, L l), (14, I l.length), (15, I k)]) (fun k => []) (fun s => l.length - s) 0 [] (by simp) (by simp [h1]) (by simp) ?_)
    rintro k ⟨hk, ho⟩
    simp only at hk ho ⊢
    repeat refine pw_seq ?_
    refine pw_N [] (by rfl) (by rfl) fun K Gc Gh hK hGc hGh X hX0 hX => ?_
    simp -implicitDefEqProofs [hX0, hX]
    try clear hX0 hX X
    intros
    refine hK _ _ _ ?_
    clear hK hGc hGh
    clear K Gc Gh
    repeat refine pw_seq ?_
    refine pw_cond rfl (fun hc => ?_) (fun hc => ?_)
    · simp at hc
      obtain ⟨row, tl, a1, a2, a3, e0⟩ := el1 rfl l k hc
      have hrm := hr row (List.mem_of_getElem? a1)
      rw [a2] at ho
      simp only [distR] at ho
      refine pw_skip (pw_seq (pw_block ?_))
      repeat refine pw_seq ?_
      refine pw_N [] (by rfl) (by rfl) fun K Gc Gh hK hGc hGh X hX0 hX => ?_
      simp -implicitDefEqProofs [hX0, hX, e0, hc]
      try clear hX0 hX X
      intros
      refine hK _ _ _ ?_
      clear hK hGc hGh
      clear K Gc Gh
      have bad : (row.length = n ∧ row.getD k 0 = 0 → row.all (fromB · 0 2147483648) = false) → distB l n = false := by
        intro q
        simp only [distB, ho]
        by_cases q1 : row.length = n
        · by_cases q2 : row.getD k 0 = 0
          · rw [q ⟨q1, q2⟩]; simp
          · simp only [q2, decide_false, Bool.and_false, Bool.false_and]
        · simp only [q1, decide_false, Bool.and_false, Bool.false_and]
      by_cases h2 : row.length = n
      · have h2' : ((row.length : Int) = n) := by omega
        have h3 : k < n := by omega
        obtain ⟨d, tl2, b1, b2, b3, e2⟩ := el1 rfl row k (by omega)
        have hd0 : row.getD k 0 = d := by rw [List.getD_eq_getElem?_getD, b1]; rfl
        by_cases h4 : d = 0
        · repeat refine pw_seq ?_
          refine pw_N [(4, 24)] (by rfl) (by rfl) fun K Gc Gh hK hGc hGh X hX0 hX => ?_
          simp -implicitDefEqProofs [hX0, hX, h2', h3, e2, h4]
          try clear hX0 hX X
          intros
          refine hK _ _ _ ?_
          clear hK hGc hGh
          clear K Gc Gh
          repeat refine pw_seq ?_
          refine pw_cf (by simp) ?_
          refine pw_skip ?_
          repeat refine pw_seq ?_
          refine pw_N [] (by rfl) (by rfl) fun K Gc Gh hK hGc hGh X hX0 hX => ?_
          simp -implicitDefEqProofs [hX0, hX]
          try clear hX0 hX X
          intros
          refine hK _ _ _ ?_
          clear hK hGc hGh
          clear K Gc Gh
          repeat refine pw_seq ?_
          refine pw_block (pw_loopL (fun s : Nat => s ≤ row.length ∧ (row.take s).all (fromB · 0 2147483648) = true) (fun j => [(0, L l), (1, I n), (13, L l), (14, I l.length), (15, I k), (31, L row), (32, I row.length), (33, I j)]) (fun k => []) (fun s => row.length - s) 0 [] (by simp) (by simp [h1, h2']) (by simp) ?_)
          rintro j ⟨hj, hoj⟩
          try simp only at hj hoj ⊢
          repeat refine pw_seq ?_
          refine pw_N [] (by rfl) (by rfl) fun K Gc Gh hK hGc hGh X hX0 hX => ?_
          simp -implicitDefEqProofs [hX0, hX]
          try clear hX0 hX X
          intros
          refine hK _ _ _ ?_
          clear hK hGc hGh
          clear K Gc Gh
          repeat refine pw_seq ?_
          refine pw_cond rfl (fun hc2 => ?_) (fun hc2 => ?_)
          · simp at hc2
            obtain ⟨e, tl3, c1, c2, c3, e3⟩ := el1 rfl row j hc2
            refine pw_skip (pw_seq (pw_block ?_))
            repeat refine pw_seq ?_
            refine pw_N [] (by rfl) (by rfl) fun K Gc Gh hK hGc hGh X hX0 hX => ?_
            simp -implicitDefEqProofs [hX0, hX, e3, hc2]
            try clear hX0 hX X
            intros
            refine hK _ _ _ ?_
            clear hK hGc hGh
            clear K Gc Gh
            repeat refine pw_seq ?_
            refine pw_N [] (by rfl) (by rfl) fun K Gc Gh hK hGc hGh X hX0 hX => ?_
            simp -implicitDefEqProofs [hX]
            try clear hX0 hX X
            refine hGc _ _ _ _ _ _ _ fun hsuf => ((from_ok _ _ _ _).mono ?_).v
            rintro _ _ ⟨rfl, rfl⟩
            refine ⟨_, _, rfl, ?_⟩
            clear hGc hGh
            clear Gc Gh
            refine xs_go hsuf (D := []) (by rfl) fun Gc Gh hGc hGh X hX0 hX => ?_
            simp -implicitDefEqProofs [hX0, hX]
            try clear hX0 hX X
            intros
            refine hK _ _ _ ?_
            clear hK hGc hGh
            clear K Gc Gh
            cases hb : fromB e 0 2147483648 with
            | false =>
              have hres := bad (fun _ => by rw [List.all_eq_false]; exact ⟨e, List.mem_of_getElem? c1, by simp [hb]⟩)
              repeat refine pw_seq ?_
              refine pw_ct rfl ?_
              repeat refine pw_seq ?_
              refine pw_N [] (by rfl) (by rfl) fun K Gc Gh hK hGc hGh X hX0 hX => ?_
              simp -implicitDefEqProofs [hX0, hX]
              try clear hX0 hX X
              intros
              refine hK _ _ _ ?_
              clear hK hGc hGh
              clear K Gc Gh
              repeat refine pw_seq ?_
              exact pw_ret (ret_pure hd (by simp; rfl) (by simp only [hres, oneOf]))
            | true =>
              repeat refine pw_seq ?_
              refine pw_cf rfl ?_
              refine pw_skip ?_
              repeat refine pw_seq ?_
              refine pw_N [] (by rfl) (by rfl) fun K Gc Gh hK hGc hGh X hX0 hX => ?_
              simp -implicitDefEqProofs [hX0, hX]
              try clear hX0 hX X
              intros
              refine hK _ _ _ ?_
              clear hK hGc hGh
              clear K Gc Gh
              exact again_mk (j + 1) [] ⟨hc2, by rw [c3, List.all_append, hoj]; simp [hb]⟩ (by omega) (by simp [wrN j (by omega)]) rfl (by simp)
          · simp at hc2
            obtain rfl : j = row.length := by omega
            rw [List.take_length] at hoj
            refine pw_exit ?_
            repeat refine pw_seq ?_
            refine pw_N [] (by rfl) (by rfl) fun K Gc Gh hK hGc hGh X hX0 hX => ?_
            simp -implicitDefEqProofs [hX0, hX]
            try clear hX0 hX X
            intros
            refine hK _ _ _ ?_
            clear hK hGc hGh
            clear K Gc Gh
            exact again_mk (k + 1) [] ⟨hc, by rw [ho, hoj, hd0]; simp [h2, h4]⟩ (by omega) (by simp [wrN k (by omega)]) rfl (by simp)
        · have hres := bad (fun q => absurd (hd0.symm.trans q.2) h4)
          repeat refine pw_seq ?_
          refine pw_N [(4, 24)] (by rfl) (by rfl) fun K Gc Gh hK hGc hGh X hX0 hX => ?_
          simp -implicitDefEqProofs [hX0, hX, h2', h3, e2, h4]
          try clear hX0 hX X
          intros
          refine hK _ _ _ ?_
          clear hK hGc hGh
          clear K Gc Gh
          repeat refine pw_seq ?_
          refine pw_ct (by simp) ?_
          repeat refine pw_seq ?_
          refine pw_N [] (by rfl) (by rfl) fun K Gc Gh hK hGc hGh X hX0 hX => ?_
          simp -implicitDefEqProofs [hX0, hX]
          try clear hX0 hX X
          intros
          refine hK _ _ _ ?_
          clear hK hGc hGh
          clear K Gc Gh
          repeat refine pw_seq ?_
          exact pw_ret (ret_pure hd (by simp; rfl) (by simp only [hres, oneOf]))
      · have hres := bad (fun q => absurd q.1 h2)
        have h2' : ((row.length : Int) != (n : Int)) = true := by simp; omega
        repeat refine pw_seq ?_
        refine pw_N [(4, 24)] (by rfl) (by rfl) fun K Gc Gh hK hGc hGh X hX0 hX => ?_
        simp -implicitDefEqProofs [hX0, hX, h2', undef]
        try clear hX0 hX X
        intros
        refine hK _ _ _ ?_
        clear hK hGc hGh
        clear K Gc Gh
        repeat refine pw_seq ?_
        refine pw_ct (by simp) ?_
        repeat refine pw_seq ?_
        refine pw_N [] (by rfl) (by rfl) fun K Gc Gh hK hGc hGh X hX0 hX => ?_
        simp -implicitDefEqProofs [hX0, hX]
        try clear hX0 hX X
        intros
        refine hK _ _ _ ?_
        clear hK hGc hGh
        clear K Gc Gh
        repeat refine pw_seq ?_
        exact pw_ret (ret_pure hd (by simp; rfl) (by simp only [hres, oneOf]))
    · simp at hc
      obtain rfl : k = l.length := by omega
      simp only [List.drop_length, distR] at ho
      refine pw_exit ?_
      repeat refine pw_seq ?_
      refine pw_N [] (by rfl) (by rfl) fun K Gc Gh hK hGc hGh X hX0 hX => ?_
      simp -implicitDefEqProofs [hX0, hX]
      try clear hX0 hX X
      intros
      refine hK _ _ _ ?_
      clear hK hGc hGh
      clear K Gc Gh
      repeat refine pw_seq ?_
      exact pw_ret (ret_pure hd (by simp; rfl) (by simp [distB, hln, ho, oneOf]))
  · have h1 : ¬ ((l.length : Int) = n) := by omega
    repeat refine pw_seq ?_
    refine pw_N [] (by rfl) (by rfl) fun K Gc Gh hK hGc hGh X hX0 hX => ?_
    simp -implicitDefEqProofs [hX0, hX, h1]
    try clear hX0 hX X
    intros
    refine hK _ _ _ ?_
    clear hK hGc hGh
    clear K Gc Gh
    repeat refine pw_seq ?_
    refine pw_ct (by simp) ?_
    repeat refine pw_seq ?_
    refine pw_N [] (by rfl) (by rfl) fun K Gc Gh hK hGc hGh X hX0 hX => ?_
    simp -implicitDefEqProofs [hX0, hX]
    try clear hX0 hX X
    intros
    refine hK _ _ _ ?_
    clear hK hGc hGh
    clear K Gc Gh
    repeat refine pw_seq ?_
    exact pw_ret (ret_pure hd (by simp; rfl) (by simp [distB, hln, oneOf]))

set_option maxRecDepth 20000 in
theorem mayIP_ok (x : Inst) (hx : InstOk x) : Pure Tryz.prog 27 [.agg (instL x)] (I (if mayI x = true then 0 else 3)) := by
  have hnc := hx.ncust
  refine pure_enter Tryz.func27 (by rfl) rfl Tryz.ntmps27 (congrArg Array.toList Tryz.results27) (by simp) fun S nx hd => ?_
  repeat refine pw_seq ?_
  refine pw_N [] (by rfl) (by rfl) fun K Gc Gh hK hGc hGh X hX0 hX => ?_
  simp -implicitDefEqProofs [hX0, hX]
  try clear hX0 hX X
  intro v0
  refine hK _ _ _ ?_
  clear hK hGc hGh
  clear K Gc Gh
  by_cases hd1 : fromB x.days 1 64 = true
  · have hdr : 1 ≤ x.days ∧ x.days ≤ 64 := by simpa [fromB] using hd1
    by_cases hc2 : (2000 : Int) < x.cust.length
    · repeat refine pw_seq ?_
      refine pw_N [(4, 11)] (by rfl) (by rfl) fun K Gc Gh hK hGc hGh X hX0 hX => ?_
      simp -implicitDefEqProofs [hX]
      try clear hX0 hX X
      refine hGc _ _ _ _ _ _ _ fun hsuf => ((from_ok _ _ _ _).mono ?_).v
      rintro _ _ ⟨rfl, rfl⟩
      refine ⟨_, _, rfl, ?_⟩
      clear hGc hGh
      clear Gc Gh
      refine xs_go hsuf (D := [(4, 11)]) (by rfl) fun Gc Gh hGc hGh X hX0 hX => ?_
      simp -implicitDefEqProofs [hX0, hX, hd1, hc2]
      try clear hX0 hX X
      intros
      refine hK _ _ _ ?_
      clear hK hGc hGh
      clear K Gc Gh
      repeat refine pw_seq ?_
      refine pw_ct (by simp) ?_
      repeat refine pw_seq ?_
      refine pw_N [] (by rfl) (by rfl) fun K Gc Gh hK hGc hGh X hX0 hX => ?_
      simp -implicitDefEqProofs [hX0, hX]
      try clear hX0 hX X
      intros
      refine hK _ _ _ ?_
      clear hK hGc hGh
      clear K Gc Gh
      repeat refine pw_seq ?_
      exact pw_ret (ret_pure hd (by simp; rfl) (by simp [mayI, show ¬ x.cust.length ≤ 2000 by omega, oneOf]))
    · repeat refine pw_seq ?_
      refine pw_N [(4, 11)] (by rfl) (by rfl) fun K Gc Gh hK hGc hGh X hX0 hX => ?_
      simp -implicitDefEqProofs [hX]
      try clear hX0 hX X
      refine hGc _ _ _ _ _ _ _ fun hsuf => ((from_ok _ _ _ _).mono ?_).v
      rintro _ _ ⟨rfl, rfl⟩
      refine ⟨_, _, rfl, ?_⟩
      clear hGc hGh
      clear Gc Gh
      refine xs_go hsuf (D := [(4, 11)]) (by rfl) fun Gc Gh hGc hGh X hX0 hX => ?_
      simp -implicitDefEqProofs [hX0, hX, hd1, hc2]
      try clear hX0 hX X
      intros
      refine hK _ _ _ ?_
      clear hK hGc hGh
      clear K Gc Gh
      repeat refine pw_seq ?_
      refine pw_cf (by simp) ?_
      refine pw_skip ?_
      repeat refine pw_seq ?_
      refine pw_N [] (by rfl) (by rfl) fun K Gc Gh hK hGc hGh X hX0 hX => ?_
      simp -implicitDefEqProofs [hX0, hX]
      try clear hX0 hX X
      intros
      refine hK _ _ _ ?_
      clear hK hGc hGh
      clear K Gc Gh
      repeat refine pw_seq ?_
      refine pw_block (pw_loopL (fun s : Nat => s ≤ 3 ∧ (1 ≤ s → fromB x.veh 0 2147483648 = true) ∧ (2 ≤ s → fromB x.cap 0 2147483648 = true) ∧ (3 ≤ s → fromB x.len 0 2147483648 = true)) (fun k => [(1, .ptr nx v0 0), (23, .lst 3 [I x.veh, I x.cap, I x.len]), (24, I 3), (25, I k)]) (fun k => [.cells v0 25 (instL x)]) (fun s => 3 - s) 0 [] (by simp) (by simp) (by simp) ?_)
      rintro k ⟨hk, i1, i2, i3⟩
      simp only at hk i1 i2 i3 ⊢
      match k, hk with
      | 0, _ =>
        repeat refine pw_seq ?_
        refine pw_N [] (by rfl) (by rfl) fun K Gc Gh hK hGc hGh X hX0 hX => ?_
        simp -implicitDefEqProofs [hX0, hX]
        try clear hX0 hX X
        intros
        refine hK _ _ _ ?_
        clear hK hGc hGh
        clear K Gc Gh
        repeat refine pw_seq ?_
        refine pw_ct rfl ?_
        refine pw_skip (pw_seq (pw_block ?_))
        repeat refine pw_seq ?_
        refine pw_N [] (by rfl) (by rfl) fun K Gc Gh hK hGc hGh X hX0 hX => ?_
        simp -implicitDefEqProofs [hX0, hX]
        try clear hX0 hX X
        intros
        refine hK _ _ _ ?_
        clear hK hGc hGh
        clear K Gc Gh
        repeat refine pw_seq ?_
        refine pw_N [] (by rfl) (by rfl) fun K Gc Gh hK hGc hGh X hX0 hX => ?_
        simp -implicitDefEqProofs [hX]
        try clear hX0 hX X
        refine hGc _ _ _ _ _ _ _ fun hsuf => ((from_ok _ _ _ _).mono ?_).v
        rintro _ _ ⟨rfl, rfl⟩
        refine ⟨_, _, rfl, ?_⟩
        clear hGc hGh
        clear Gc Gh
        refine xs_go hsuf (D := []) (by rfl) fun Gc Gh hGc hGh X hX0 hX => ?_
        simp -implicitDefEqProofs [hX0, hX]
        try clear hX0 hX X
        intros
        refine hK _ _ _ ?_
        clear hK hGc hGh
        clear K Gc Gh
        cases hb : fromB x.veh 0 2147483648 with
        | false =>
          repeat refine pw_seq ?_
          refine pw_ct rfl ?_
          repeat refine pw_seq ?_
          refine pw_N [] (by rfl) (by rfl) fun K Gc Gh hK hGc hGh X hX0 hX => ?_
          simp -implicitDefEqProofs [hX0, hX]
          try clear hX0 hX X
          intros
          refine hK _ _ _ ?_
          clear hK hGc hGh
          clear K Gc Gh
          repeat refine pw_seq ?_
          exact pw_ret (ret_pure hd (by simp; rfl) (by simp [mayI, hb, oneOf]))
        | true =>
          repeat refine pw_seq ?_
          refine pw_cf rfl ?_
          refine pw_skip ?_
          repeat refine pw_seq ?_
          refine pw_N [] (by rfl) (by rfl) fun K Gc Gh hK hGc hGh X hX0 hX => ?_
          simp -implicitDefEqProofs [hX0, hX]
          try clear hX0 hX X
          intros
          refine hK _ _ _ ?_
          clear hK hGc hGh
          clear K Gc Gh
          exact again_mk 1 [] (by simp) (by simp) (by simp; rfl) rfl (by simp)
      | 1, _ =>
        repeat refine pw_seq ?_
        refine pw_N [] (by rfl) (by rfl) fun K Gc Gh hK hGc hGh X hX0 hX => ?_
        simp -implicitDefEqProofs [hX0, hX]
        try clear hX0 hX X
        intros
        refine hK _ _ _ ?_
        clear hK hGc hGh
        clear K Gc Gh
        repeat refine pw_seq ?_
        refine pw_ct rfl ?_
        refine pw_skip (pw_seq (pw_block ?_))
        repeat refine pw_seq ?_
        refine pw_N [] (by rfl) (by rfl) fun K Gc Gh hK hGc hGh X hX0 hX => ?_
        simp -implicitDefEqProofs [hX0, hX]
        try clear hX0 hX X
        intros
        refine hK _ _ _ ?_
        clear hK hGc hGh
        clear K Gc Gh
        repeat refine pw_seq ?_
        refine pw_N [] (by rfl) (by rfl) fun K Gc Gh hK hGc hGh X hX0 hX => ?_
        simp -implicitDefEqProofs [hX]
        try clear hX0 hX X
        refine hGc _ _ _ _ _ _ _ fun hsuf => ((from_ok _ _ _ _).mono ?_).v
        rintro _ _ ⟨rfl, rfl⟩
        refine ⟨_, _, rfl, ?_⟩
        clear hGc hGh
        clear Gc Gh
        refine xs_go hsuf (D := []) (by rfl) fun Gc Gh hGc hGh X hX0 hX => ?_
        simp -implicitDefEqProofs [hX0, hX]
        try clear hX0 hX X
        intros
        refine hK _ _ _ ?_
        clear hK hGc hGh
        clear K Gc Gh
        cases hb : fromB x.cap 0 2147483648 with
        | false =>
          repeat refine pw_seq ?_
          refine pw_ct rfl ?_
          repeat refine pw_seq ?_
          refine pw_N [] (by rfl) (by rfl) fun K Gc Gh hK hGc hGh X hX0 hX => ?_
          simp -implicitDefEqProofs [hX0, hX]
          try clear hX0 hX X
          intros
          refine hK _ _ _ ?_
          clear hK hGc hGh
          clear K Gc Gh
          repeat refine pw_seq ?_
          exact pw_ret (ret_pure hd (by simp; rfl) (by simp [mayI, hb, oneOf]))
        | true =>
          repeat refine pw_seq ?_
          refine pw_cf rfl ?_
          refine pw_skip ?_
          repeat refine pw_seq ?_
          refine pw_N [] (by rfl) (by rfl) fun K Gc Gh hK hGc hGh X hX0 hX => ?_
          simp -implicitDefEqProofs [hX0, hX]
          try clear hX0 hX X
          intros
          refine hK _ _ _ ?_
          clear hK hGc hGh
          clear K Gc Gh
          exact again_mk 2 [] (by simp [i1 (by omega)]) (by simp) (by simp; rfl) rfl (by simp)
      | 2, _ =>
        repeat refine pw_seq ?_
        refine pw_N [] (by rfl) (by rfl) fun K Gc Gh hK hGc hGh X hX0 hX => ?_
        simp -implicitDefEqProofs [hX0, hX]
        try clear hX0 hX X
        intros
        refine hK _ _ _ ?_
        clear hK hGc hGh
        clear K Gc Gh
        repeat refine pw_seq ?_
        refine pw_ct rfl ?_
        refine pw_skip (pw_seq (pw_block ?_))
        repeat refine pw_seq ?_
        refine pw_N [] (by rfl) (by rfl) fun K Gc Gh hK hGc hGh X hX0 hX => ?_
        simp -implicitDefEqProofs [hX0, hX]
        try clear hX0 hX X
        intros
        refine hK _ _ _ ?_
        clear hK hGc hGh
        clear K Gc Gh
        repeat refine pw_seq ?_
        refine pw_N [] (by rfl) (by rfl) fun K Gc Gh hK hGc hGh X hX0 hX => ?_
        simp -implicitDefEqProofs [hX]
        try clear hX0 hX X
        refine hGc _ _ _ _ _ _ _ fun hsuf => ((from_ok _ _ _ _).mono ?_).v
        rintro _ _ ⟨rfl, rfl⟩
        refine ⟨_, _, rfl, ?_⟩
        clear hGc hGh
        clear Gc Gh
        refine xs_go hsuf (D := []) (by rfl) fun Gc Gh hGc hGh X hX0 hX => ?_
        simp -implicitDefEqProofs [hX0, hX]
        try clear hX0 hX X
        intros
        refine hK _ _ _ ?_
        clear hK hGc hGh
        clear K Gc Gh
        cases hb : fromB x.len 0 2147483648 with
        | false =>
          repeat refine pw_seq ?_
          refine pw_ct rfl ?_
          repeat refine pw_seq ?_
          refine pw_N [] (by rfl) (by rfl) fun K Gc Gh hK hGc hGh X hX0 hX => ?_
          simp -implicitDefEqProofs [hX0, hX]
          try clear hX0 hX X
          intros
          refine hK _ _ _ ?_
          clear hK hGc hGh
          clear K Gc Gh
          repeat refine pw_seq ?_
          exact pw_ret (ret_pure hd (by simp; rfl) (by simp [mayI, hb, oneOf]))
        | true =>
          repeat refine pw_seq ?_
          refine pw_cf rfl ?_
          refine pw_skip ?_
          repeat refine pw_seq ?_
          refine pw_N [] (by rfl) (by rfl) fun K Gc Gh hK hGc hGh X hX0 hX => ?_
          simp -implicitDefEqProofs [hX0, hX]
          try clear hX0 hX X
          intros
          refine hK _ _ _ ?_
          clear hK hGc hGh
          clear K Gc Gh
          exact again_mk 3 [] (by simp [i1 (by omega), i2 (by omega)]) (by simp) (by simp; rfl) rfl (by simp)
      | 3, _ =>
        have q1 := i1 (by omega)
        have q2 := i2 (by omega)
        have q3 := i3 (by omega)
        repeat refine pw_seq ?_
        refine pw_N [] (by rfl) (by rfl) fun K Gc Gh hK hGc hGh X hX0 hX => ?_
        simp -implicitDefEqProofs [hX0, hX]
        try clear hX0 hX X
        intros
        refine hK _ _ _ ?_
        clear hK hGc hGh
        clear K Gc Gh
        repeat refine pw_seq ?_
        refine pw_cf rfl ?_
        refine pw_exit ?_
        repeat refine pw_seq ?_
        refine pw_N [] (by rfl) (by rfl) fun K Gc Gh hK hGc hGh X hX0 hX => ?_
        simp -implicitDefEqProofs [hX0, hX]
        try clear hX0 hX X
        intros
        refine hK _ _ _ ?_
        clear hK hGc hGh
        clear K Gc Gh
        repeat refine pw_seq ?_
        refine pw_block (pw_loopL (fun s : Nat => s ≤ x.cust.length ∧ (x.cust.take s).all (custMayB · x.days) = true) (fun k => [(1, .ptr nx v0 0), (34, L x.cust), (35, I x.cust.length), (36, I k)]) (fun k => [.cells v0 25 (instL x)]) (fun s => x.cust.length - s) 0 [] (by simp) (by simp) (by simp) ?_)
        rintro k ⟨hk, ho⟩
        try simp only at hk ho ⊢
        repeat refine pw_seq ?_
        refine pw_N [] (by rfl) (by rfl) fun K Gc Gh hK hGc hGh X hX0 hX => ?_
        simp -implicitDefEqProofs [hX0, hX]
        try clear hX0 hX X
        intros
        refine hK _ _ _ ?_
        clear hK hGc hGh
        clear K Gc Gh
        repeat refine pw_seq ?_
        refine pw_cond rfl (fun hc => ?_) (fun hc => ?_)
        · simp at hc
          obtain ⟨c, tl, a1, a2, a3, _, e0⟩ := el 8 rfl x.cust k hc
          have hcm := List.mem_of_getElem? a1
          have hco := hx.cust c hcm
          refine pw_skip (pw_seq (pw_block ?_))
          repeat refine pw_seq ?_
          refine pw_N [] (by rfl) (by rfl) fun K Gc Gh hK hGc hGh X hX0 hX => ?_
          simp -implicitDefEqProofs [hX0, hX, e0, hc]
          try clear hX0 hX X
          intro v1
          refine hK _ _ _ ?_
          clear hK hGc hGh
          clear K Gc Gh
          repeat refine pw_seq ?_
          refine pw_N [] (by rfl) (by rfl) fun K Gc Gh hK hGc hGh X hX0 hX => ?_
          simp -implicitDefEqProofs [hX]
          try clear hX0 hX X
          refine hGc _ _ _ _ _ _ _ fun hsuf => ((customerMay_ok c x.days hco.pats hco.npats (by omega) _).mono ?_).v
          rintro _ _ ⟨rfl, rfl⟩
          refine ⟨_, _, rfl, ?_⟩
          clear hGc hGh
          clear Gc Gh
          refine xs_go hsuf (D := []) (by rfl) fun Gc Gh hGc hGh X hX0 hX => ?_
          simp -implicitDefEqProofs [hX0, hX]
          try clear hX0 hX X
          intros
          refine hK _ _ _ ?_
          clear hK hGc hGh
          clear K Gc Gh
          cases hb : custMayB c x.days with
          | false =>
            have hres : x.cust.all (custMayB · x.days) = false := by rw [List.all_eq_false]; exact ⟨c, hcm, by simp [hb]⟩
            repeat refine pw_seq ?_
            refine pw_ct rfl ?_
            repeat refine pw_seq ?_
            refine pw_N [] (by rfl) (by rfl) fun K Gc Gh hK hGc hGh X hX0 hX => ?_
            simp -implicitDefEqProofs [hX0, hX]
            try clear hX0 hX X
            intros
            refine hK _ _ _ ?_
            clear hK hGc hGh
            clear K Gc Gh
            repeat refine pw_seq ?_
            exact pw_ret (ret_pure hd (by simp; rfl) (by simp [mayI, hres, oneOf]))
          | true =>
            repeat refine pw_seq ?_
            refine pw_cf rfl ?_
            refine pw_skip ?_
            repeat refine pw_seq ?_
            refine pw_N [] (by rfl) (by rfl) fun K Gc Gh hK hGc hGh X hX0 hX => ?_
            simp -implicitDefEqProofs [hX0, hX]
            try clear hX0 hX X
            intros
            refine hK _ _ _ ?_
            clear hK hGc hGh
            clear K Gc Gh
            exact again_mk (k + 1) [_] ⟨hc, by rw [a3, List.all_append, ho]; simp [hb]⟩ (by omega) (by simp [wrN k (by omega)]) rfl rfl
        · simp at hc
          obtain rfl : k = x.cust.length := by omega
          rw [List.take_length] at ho
          have w1 := wrN x.cust.length (by omega)
          refine pw_exit ?_
          repeat refine pw_seq ?_
          refine pw_N [] (by rfl) (by rfl) fun K Gc Gh hK hGc hGh X hX0 hX => ?_
          simp -implicitDefEqProofs [hX, w1]
          try clear hX0 hX X
          refine hGc _ _ _ _ _ _ _ fun hsuf => ((distMay_ok x.dist (x.cust.length + 1) (by omega) hx.ndist (fun r hr => (hx.dist r hr).1) _).mono ?_).v
          rintro _ _ ⟨rfl, rfl⟩
          refine ⟨_, _, rfl, ?_⟩
          clear hGc hGh
          clear Gc Gh
          refine xs_go hsuf (D := []) (by rfl) fun Gc Gh hGc hGh X hX0 hX => ?_
          simp -implicitDefEqProofs [hX0, hX]
          try clear hX0 hX X
          intros
          refine hK _ _ _ ?_
          clear hK hGc hGh
          clear K Gc Gh
          cases hb : distB x.dist (x.cust.length + 1) with
          | false =>
            repeat refine pw_seq ?_
            refine pw_ct rfl ?_
            repeat refine pw_seq ?_
            refine pw_N [] (by rfl) (by rfl) fun K Gc Gh hK hGc hGh X hX0 hX => ?_
            simp -implicitDefEqProofs [hX0, hX]
            try clear hX0 hX X
            intros
            refine hK _ _ _ ?_
            clear hK hGc hGh
            clear K Gc Gh
            repeat refine pw_seq ?_
            exact pw_ret (ret_pure hd (by simp; rfl) (by simp [mayI, hb, oneOf]))
          | true =>
            repeat refine pw_seq ?_
            refine pw_cf rfl ?_
            refine pw_skip ?_
            repeat refine pw_seq ?_
            refine pw_N [] (by rfl) (by rfl) fun K Gc Gh hK hGc hGh X hX0 hX => ?_
            simp -implicitDefEqProofs [hX0, hX]
            try clear hX0 hX X
            intros
            refine hK _ _ _ ?_
            clear hK hGc hGh
            clear K Gc Gh
            repeat refine pw_seq ?_
            exact pw_ret (ret_pure hd (by simp; rfl) (by simp [mayI, hb, hd1, q1, q2, q3, ho, show x.cust.length ≤ 2000 by omega, oneOf]))
  · repeat refine pw_seq ?_
    refine pw_N [(4, 11)] (by rfl) (by rfl) fun K Gc Gh hK hGc hGh X hX0 hX => ?_
    simp -implicitDefEqProofs [hX]
    try clear hX0 hX X
    refine hGc _ _ _ _ _ _ _ fun hsuf => ((from_ok _ _ _ _).mono ?_).v
    rintro _ _ ⟨rfl, rfl⟩
    refine ⟨_, _, rfl, ?_⟩
    clear hGc hGh
    clear Gc Gh
    refine xs_go hsuf (D := [(4, 11)]) (by rfl) fun Gc Gh hGc hGh X hX0 hX => ?_
    simp -implicitDefEqProofs [hX0, hX, hd1, undef]
    try clear hX0 hX X
    intros
    refine hK _ _ _ ?_
    clear hK hGc hGh
    clear K Gc Gh
    repeat refine pw_seq ?_
    refine pw_ct (by simp) ?_
    repeat refine pw_seq ?_
    refine pw_N [] (by rfl) (by rfl) fun K Gc Gh hK hGc hGh X hX0 hX => ?_
    simp -implicitDefEqProofs [hX0, hX]
    try clear hX0 hX X
    intros
    refine hK _ _ _ ?_
    clear hK hGc hGh
    clear K Gc Gh
    repeat refine pw_seq ?_
    exact pw_ret (ret_pure hd (by simp; rfl) (by simp [mayI, hd1, oneOf]))

end Go.Proofs.YtlkcdaeknioanaaGreat.Pv
