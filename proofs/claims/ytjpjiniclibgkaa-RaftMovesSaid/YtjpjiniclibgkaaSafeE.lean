/- A message is heard: Step. Then: A message is heard, as the document says. What is the same is found to be the same. How a node begins, and how it asks for votes: Empty, New, Timeout. A node asks for votes: Timeout. A node asks for votes, as the document says. The laws' guards: heavy; what is asked first: wakes. An election that the document tells: wakes. -/
import Derived.Test.YtjpjiniclibgkaaSafeD
namespace Go.Proofs.Ytjpjiniclibgkaa.Sx
open Go

def turnN (n : Node) (k : Msg) : Node := if k.term > n.log.term then followN n k.term (-1) else n
def voteB (n : Node) (k : Msg) : Bool := ((n.role == 1) && (k.term == n.log.term)) && k.yes
def orV (n : Node) (k : Msg) : Int := bits .or .i64 n.votes (IntKind.i64.wrap (1 * 2 ^ (min k.frm.toNat IntKind.i64.bits)))
def orN (n : Node) (k : Msg) : Node := { n with votes := orV n k }
def zeroN : Node := ⟨0, 0, ⟨0, 0, 0, 0, ByteArray.empty, []⟩, 0, 0, 0, 0, fun _ => 0, fun _ => 0⟩
structure StepR where
  n : Node
  ks : List Msg
  e : Int
def heardS (n : Node) (k : Msg) (r : HeardR) : StepR := ⟨r.n, repl1 n k r, 0⟩
def leadS (n : Node) : StepR := if enoughB n = true then ⟨winN n, feedAllK (winN n), 0⟩ else ⟨n, [], 0⟩
def gotS (n : Node) (k : Msg) : StepR := ⟨gotN n k, if gotY n k = true then [feedN (gotN n k) k.frm] else [], 0⟩
def leaderS (n : Node) (k : Msg) : StepR :=
  if k.term < n.log.term then ⟨n, [sayN n k.frm (ansM 0 false)], 0⟩
  else if n.role = 2 then ⟨n, [], 0⟩
  else if k.kind = 3 then heardS (followN n k.term k.frm) k (appendR (followN n k.term k.frm) k)
  else heardS (followN n k.term k.frm) k (installR (followN n k.term k.frm) k)
def heardK (n : Node) (k : Msg) : StepR :=
  if k.kind = 1 then heardS n k (askR n k)
  else if k.kind = 2 then (if voteB n k = true then leadS (orN n k) else ⟨n, [], 0⟩)
  else if k.kind = 4 then gotS n k
  else leaderS n k
def stepR (n : Node) (k : Msg) : StepR := if goodB n = true ∧ soundB n k = true then heardK (turnN n k) k else ⟨zeroN, [], 1⟩
structure StepG where
  n : Node
  A : Option Addr
  c : Nat
  k : Msg
  D : Option Addr
  e : Nat
  m : Mem
structure StepB where
  n : Node
  A : Option Addr
  c : Nat
  os : List OMsg
  O : Option Addr
  oc : Nat
  m : Mem
/-- What a turn hands back is its own: no part of it lies where the memory had something, and no two parts lie in one block. -/
structure News (m : Mem) (b : StepB) : Prop where
  wa : Whole b.m b.A (b.n.log.items.length * 6)
  fa : Fresh m b.A (b.n.log.items.length * 6)
  wo : Whole b.m b.O (b.os.length * 10)
  fo : Fresh m b.O (b.os.length * 10)
  fi : ∀ o ∈ b.os, Fresh m o.A o.w
  ao : Apart b.A (b.n.log.items.length * 6) b.O (b.os.length * 10)
  ai : ∀ o ∈ b.os, Apart b.A (b.n.log.items.length * 6) o.A o.w
  oi : ∀ o ∈ b.os, Apart b.O (b.os.length * 10) o.A o.w
theorem news_two {m m0 m1 m2 : Mem} {n : Node} {A1 A2 : Option Addr} {c1 c2 N : Nat} {xs ys : List Value} {os : List OMsg} (h1 : Sealed m0 m1 A1 c1 N 6 xs) (hn : n.log.items.length ≤ N) (h2 : Sealed m1 m2 A2 c2 os.length 10 ys) (hs : Said m0 os)
    (hf : ∀ o ∈ os, Fresh m o.A o.w) (hx : ∀ b o, m b = some o → m0 b = some o) : News m ⟨n, A1, c1, os, A2, c2, m2⟩ := by
  have hnn : n.log.items.length * 6 ≤ N * 6 := Nat.mul_le_mul_right _ hn
  have w1 := (Whole.of_sealed h1).less hnn
  have f1 := (Fresh.of_sealed h1).less hnn
  have f2 := Fresh.of_sealed h2
  refine ⟨w1.ext h2.ext, f1.back hx, .of_sealed h2, (f2.back h1.ext).back hx, hf, .of w1 f2, fun o ho => (Apart.of (hs o ho).2.2 f1).symm, fun o ho => (Apart.of ((hs o ho).2.2.ext h1.ext) f2).symm⟩
theorem news_st {m m3 m5 : Mem} {n : Node} {A2 A5 : Option Addr} {c2 c5 : Nat} {ys : List Value} {os : List OMsg} (hw : Own m m3 A2 (n.log.items.length * 6) os) (h5 : Sealed m3 m5 A5 c5 os.length 10 ys) (hs : Said m3 os)
    (hf : ∀ o ∈ os, Fresh m o.A o.w) (hx : ∀ b o, m b = some o → m3 b = some o) : News m ⟨n, A2, c2, os, A5, c5, m5⟩ := by
  have f5 := Fresh.of_sealed h5
  exact ⟨hw.1.ext h5.ext, hw.2.1, .of_sealed h5, f5.back hx, hf, .of hw.1 f5, hw.2.2, fun o ho => (Apart.of (hs o ho).2.2 f5).symm⟩
theorem news_one {m m1 : Mem} {n : Node} {A1 : Option Addr} {c1 : Nat} {xs : List Value} (h1 : Sealed m m1 A1 c1 n.log.items.length 6 xs) : News m ⟨n, A1, c1, [], none, 0, m1⟩ :=
  ⟨.of_sealed h1, .of_sealed h1, .inl rfl, .inl rfl, fun _ h => (by cases h), .inr (.inl rfl), fun _ h => (by cases h), fun _ h => (by cases h)⟩
theorem news_err {m : Mem} : News m ⟨zeroN, none, 0, [], none, 0, m⟩ :=
  ⟨.inl rfl, .inl rfl, .inl rfl, .inl rfl, fun _ h => (by cases h), .inl rfl, fun _ h => (by cases h), fun _ h => (by cases h)⟩
/-- What a turn hands back, in memory that stays. -/
def Told (m : Mem) (b : StepB) : Prop := (Cells b.m b.A (itemsV b.n.log.items) ∧ b.n.log.items.length ≤ b.c) ∧ (Cells b.m b.O (saidV b.os) ∧ b.os.length ≤ b.oc) ∧ Said b.m b.os ∧ (∀ x o, m x = some o → b.m x = some o) ∧ News m b
def outN (b : StepB) (e : Int) : Out := .ret (.t [.g (nodeC b.n (.sl b.A b.n.log.items.length b.c)), .sl b.O b.os.length b.oc, .i .i64 e])
def stepSpec : Spec where
  A := StepG
  R := fun ⟨n, A, c, k, D, e, m⟩ => (Cells m A (itemsV n.log.items) ∧ n.log.items.length ≤ c ∧ n.log.items.length < 2 ^ 62) ∧ (Cells m D (itemsV k.items) ∧ k.items.length ≤ e ∧ k.items.length < 2 ^ 62)
  J := fun ⟨_, _, _, _, _, _, m⟩ => m
  args := fun ⟨n, A, c, k, D, e, _⟩ => [.g (nodeC n (.sl A n.log.items.length c)), .g (msgC k (.sl D k.items.length e))]
  h := fun _ => []
  nx := 0
  Bb := StepB
  C := fun ⟨n, _, _, k, _, _, m⟩ b => b.n = (stepR n k).n ∧ b.os.map (·.k) = (stepR n k).ks ∧ Told m b
  out := fun ⟨n, _, _, k, _, _, _⟩ b => outN b (stepR n k).e
  h2 := fun _ _ => []
  nx2 := 0
  J2 := fun _ b => b.m
  ext := true
  md := 2
  so := true
theorem turn_fine {n : Node} {k : Msg} (h : Fine n) (hk : Heard n k) : Fine (turnN n k) := by
  unfold turnN
  split
  · rename_i ht
    have hlog : (followN n k.term (-1)).log = { n.log with term := k.term, vote := -1 } := by show (if k.term > n.log.term then _ else _) = _; rw [if_pos ht]
    have hli : lastI (followN n k.term (-1)) = lastI n := by unfold lastI; rw [hlog]
    have := h.s1; have := h.s2; have := h.t1; have := hk.t2; have := h.b1; have := h.ris.2; have := h.c1; have := h.c2
    have hll : lastI n = n.log.base + n.log.items.length := rfl
    have hp : (0 : Int) < 2 ^ n.size.toNat := Int.pow_pos (by decide)
    refine ⟨h.s1, h.s2, h.m1, h.m2, ?_, ?_, ?_, ?_, ?_, ?_, ?_, ?_, ?_, by show (0 : Int) ≤ 0; omega, by show (0 : Int) ≤ 2; omega, by show (-1 : Int) ≤ -1; omega, by show (-1 : Int) < n.size; omega, ?_, ?_, by show (0 : Int) ≤ 0; omega, by show (0 : Int) < _; exact hp, ?_⟩
    all_goals try rw [hlog]
    · show 0 ≤ k.term; omega
    · exact hk.t2
    · show (-1 : Int) ≤ -1; omega
    · show (-1 : Int) < n.size; omega
    · exact h.b1
    · exact h.b2
    · exact h.bt
    · exact h.l
    · exact ⟨h.ris.1, by show endT n.log.baseTerm n.log.items ≤ k.term; omega⟩
    · exact h.c1
    · rw [hli]; exact h.c2
    · exact ⟨fun i hi => by rw [hli]; show (0 : Int) ≤ 0 ∧ (0 : Int) ≤ _; omega, fun i hi => by rw [hli]; show (0 : Int) ≤ 0 ∧ (0 : Int) ≤ _; omega⟩
  · exact h
theorem heard_turn {n a : Node} {k : Msg} (ha : a = turnN n k) (h : Heard n k) : Heard a k := by
  have hm : a.me = n.me := by rw [ha]; unfold turnN; split <;> rfl
  have hs : a.size = n.size := by rw [ha]; unfold turnN; split <;> rfl
  exact ⟨by rw [hm]; exact h.to, h.f1, by rw [hs]; exact h.f2, by rw [hm]; exact h.f3, h.k1, h.k2, h.t1, h.t2, h.a1, h.a2, h.b1, h.b2, h.c1, h.c2, h.l, h.up⟩
theorem follow_fine {n : Node} {k : Msg} (h : Fine n) (hk : Heard n k) (_ht : ¬ k.term < n.log.term) : Fine (followN n k.term k.frm) := by
  have := h.s1; have := h.s2; have := h.t1; have := hk.t2; have := h.b1; have := h.ris.2; have := h.c1; have := h.c2; have := hk.f1; have := hk.f2
  have hll : lastI n = n.log.base + n.log.items.length := rfl
  have hp : (0 : Int) < 2 ^ n.size.toNat := Int.pow_pos (by decide)
  by_cases ht : k.term > n.log.term
  · have hlog : (followN n k.term k.frm).log = { n.log with term := k.term, vote := -1 } := by show (if k.term > n.log.term then _ else _) = _; rw [if_pos ht]
    have hli : lastI (followN n k.term k.frm) = lastI n := by unfold lastI; rw [hlog]
    refine ⟨h.s1, h.s2, h.m1, h.m2, ?_, ?_, ?_, ?_, ?_, ?_, ?_, ?_, ?_, by show (0 : Int) ≤ 0; omega, by show (0 : Int) ≤ 2; omega, by show (-1 : Int) ≤ k.frm; omega, by show k.frm < n.size; omega, ?_, ?_, by show (0 : Int) ≤ 0; omega, by show (0 : Int) < _; exact hp, ?_⟩
    all_goals try rw [hlog]
    · show 0 ≤ k.term; omega
    · exact hk.t2
    · show (-1 : Int) ≤ -1; omega
    · show (-1 : Int) < n.size; omega
    · exact h.b1
    · exact h.b2
    · exact h.bt
    · exact h.l
    · exact ⟨h.ris.1, by show endT n.log.baseTerm n.log.items ≤ k.term; omega⟩
    · exact h.c1
    · rw [hli]; exact h.c2
    · exact ⟨fun i hi => by rw [hli]; show (0 : Int) ≤ 0 ∧ (0 : Int) ≤ _; omega, fun i hi => by rw [hli]; show (0 : Int) ≤ 0 ∧ (0 : Int) ≤ _; omega⟩
  · have hlog : (followN n k.term k.frm).log = n.log := by show (if k.term > n.log.term then _ else _) = _; rw [if_neg ht]
    have hli : lastI (followN n k.term k.frm) = lastI n := by unfold lastI; rw [hlog]
    refine ⟨h.s1, h.s2, h.m1, h.m2, ?_, ?_, ?_, ?_, ?_, ?_, ?_, ?_, ?_, by show (0 : Int) ≤ 0; omega, by show (0 : Int) ≤ 2; omega, by show (-1 : Int) ≤ k.frm; omega, by show k.frm < n.size; omega, ?_, ?_, by show (0 : Int) ≤ 0; omega, by show (0 : Int) < _; exact hp, ?_⟩
    all_goals try rw [hlog]
    · exact h.t1
    · exact h.t2
    · exact h.v1
    · exact h.v2
    · exact h.b1
    · exact h.b2
    · exact h.bt
    · exact h.l
    · exact h.ris
    · exact h.c1
    · rw [hli]; exact h.c2
    · exact ⟨fun i hi => by rw [hli]; show (0 : Int) ≤ 0 ∧ (0 : Int) ≤ _; omega, fun i hi => by rw [hli]; show (0 : Int) ≤ 0 ∧ (0 : Int) ≤ _; omega⟩
theorem or_fit {n : Node} {k : Msg} (h : Fine n) : Fit (orN n k) := have h := h.fit; ⟨h.s1, h.s2, h.m1, h.m2, h.b1, h.b2, h.l, h.c1, h.c2⟩
def S13 : List (Nat × Spec) := S12
theorem S13_all : ∀ f s, findS S13 f = some s → SpecOk Try.prog f s := S12_all
theorem S13_ok : CPOk Try.prog (CPs S13) := CPs_ok S13_all
theorem since_nil {m : Mem} {os : List OMsg} {ks : List Msg} (h : Since m [] os ks) : os.map (·.k) = ks := by
  obtain ⟨new, rfl, h, _⟩ := h
  exact h
theorem or_lt {v f : Nat} (hv : v < 128) (hf : f < 7) : 0 ≤ bits .or .i64 (v : Int) (IntKind.i64.wrap (1 * 2 ^ (min (f : Int).toNat IntKind.i64.bits))) ∧ bits .or .i64 (v : Int) (IntKind.i64.wrap (1 * 2 ^ (min (f : Int).toNat IntKind.i64.bits))) < 128 := by
  have key : ((List.range 128).all fun v => (List.range 7).all fun f => decide (0 ≤ bits .or .i64 (v : Int) (IntKind.i64.wrap (1 * 2 ^ (min (f : Int).toNat IntKind.i64.bits)))) && decide (bits .or .i64 (v : Int) (IntKind.i64.wrap (1 * 2 ^ (min (f : Int).toNat IntKind.i64.bits))) < 128)) = true := by kernel_rfl
  have := List.all_eq_true.1 (List.all_eq_true.1 key v (List.mem_range.2 hv)) f (List.mem_range.2 hf)
  simpa using this
theorem pow_le7 {s : Int} (h : 1 ≤ s ∧ s ≤ 7) : (2 : Int) ^ s.toNat ≤ 128 := by
  have : s = 1 ∨ s = 2 ∨ s = 3 ∨ s = 4 ∨ s = 5 ∨ s = 6 ∨ s = 7 := by omega
  rcases this with rfl | rfl | rfl | rfl | rfl | rfl | rfl <;> decide
theorem orV_lt {n : Node} {k : Msg} (h : Fine n) (hk : Heard n k) : 0 ≤ orV n k ∧ orV n k < 128 := by
  have := h.w1; have := h.w2; have := pow_le7 ⟨h.s1, h.s2⟩; have := hk.f1; have := hk.f2; have := h.s2
  have := or_lt (v := n.votes.toNat) (f := k.frm.toNat) (by omega) (by omega)
  have e1 : ((n.votes.toNat : Nat) : Int) = n.votes := by omega
  have e2 : ((k.frm.toNat : Nat) : Int) = k.frm := by omega
  rw [e1, e2] at this
  exact this
theorem Fine.mono {n : Node} (h : Fine n) : Mono n := mono_of h.fit h.ris h.c1
theorem valid_none : validB noneE = true := by decide
theorem lay_mono {n : Node} {e : Entry} (h : Fine n) (hv : validB e = true) : Mono (layN n e) := by
  have hl : (layN n e).log.items.length = n.log.items.length + 1 := by show (n.log.items ++ [_]).length = _; rw [List.length_append]; rfl
  have := h.fit
  refine mono_of ⟨this.s1, this.s2, this.m1, this.m2, this.b1, this.b2, ?_, this.c1, this.c2⟩ (rising_snoc h.ris rfl hv) h.c1
  rw [hl]; have := h.l; omega
theorem lead_mono {n : Node} (h : Fine n) : Mono (layN (leadN n) noneE) := fun i j h1 h2 h3 h4 => lay_mono (n := n) (e := noneE) h valid_none i j h1 h2 h3 h4
theorem lead_mono' {n : Node} {k : Msg} (h : Fine n) : Mono (layN (leadN (orN n k)) noneE) := fun i j h1 h2 h3 h4 => lay_mono (n := n) (e := noneE) h valid_none i j h1 h2 h3 h4
set_option maxRecDepth 100000 in
set_option maxHeartbeats 6400000 in
theorem step_ok : SpecOk Try.prog 12 stepSpec := by
  refine spec_of_exec (fn := Try.f12) (c := Try.f12.body.getD .skip) (d := 0) (lv := ([0, 1, 2, 3, 4, 5, 6, 7, 16, 28, 34, 35, 58, 77, 84, 89, 111, 126])) (DP := DPx T1 (CPs S13) ([0, 1, 2, 3, 4, 5, 6, 7, 16, 28, 34, 35, 58, 77, 84, 89, 111, 126])) T1_ok S13_ok (fun B => DPx_ok T1_ok ord S13_ok B) stepSpec (by rfl) (by rfl) (by rfl) (fun _ => Nat.le_of_ble_eq_true (by kernel_rfl)) ?_
  rintro ⟨n, A, c, k, D, e, m⟩ ⟨⟨hM, hcap, hl⟩, ⟨hD, hde, hkl⟩⟩
  conv => whnf
  refine ⟨⟨n, A, c, m⟩, ⟨hM, hl⟩, ?_⟩
  conv => whnf
  repeat (first | exact trivial | (refine ⟨by first | exact ⟨rfl, rfl, rfl⟩ | rfl | exact ⟨rfl, rfl⟩ | exact ⟨rfl, fun _ _ => rfl⟩ | exact fun _ _ h => h | (intro _ _ h; cases h; done), ?_⟩; conv => whnf))
  intro _ _
  conv => whnf
  refine ⟨fun hg => ?_, fun hg => ?_⟩
  · have hg : goodB n = false := by simpa using hg
    have hr : stepR n k = ⟨zeroN, [], 1⟩ := by unfold stepR; rw [if_neg (fun h => by rw [hg] at h; cases h.1)]
    conv => whnf
    refine ⟨fun _ => ?_, fun h => (by cases h)⟩
    conv => whnf
    conv => whnf
    refine ⟨⟨zeroN, none, 0, [], none, 0, m⟩, ⟨by rw [hr], by rw [hr] <;> rfl, ⟨Cells.nil _ _, Nat.le_refl _⟩, ⟨Cells.nil _ _, Nat.le_refl _⟩, fun _ h => (by cases h), fun _ _ h => h, news_err⟩, ?_⟩
    conv => whnf
    repeat (first | exact trivial | exact fun _ _ h => h | (refine ⟨by first | exact ⟨rfl, rfl, rfl⟩ | rfl | exact ⟨rfl, rfl⟩ | exact ⟨rfl, fun _ _ => rfl⟩ | exact fun _ _ h => h | (intro _ _ h; cases h; done) | (rw [hr] <;> rfl) | (rw [hr]; done), ?_⟩; conv => whnf))
  · have hg : goodB n = true := by simpa using hg
    have hfine := fine_iff.1 hg
    conv => whnf
    refine ⟨⟨n, A, c, k, D, e, m⟩, ⟨hD, hkl⟩, ?_⟩
    conv => whnf
    repeat (first | exact trivial | (refine ⟨by first | exact ⟨rfl, rfl, rfl⟩ | rfl | exact ⟨rfl, rfl⟩ | exact ⟨rfl, fun _ _ => rfl⟩ | exact fun _ _ h => h | (intro _ _ h; cases h; done), ?_⟩; conv => whnf))
    intro _ _
    conv => whnf
    refine ⟨fun hs => ?_, fun hs => ?_⟩
    · have hs : soundB n k = false := by simpa using hs
      have hr : stepR n k = ⟨zeroN, [], 1⟩ := by unfold stepR; rw [if_neg (fun h => by rw [hs] at h; cases h.2)]
      conv => whnf
      refine ⟨⟨zeroN, none, 0, [], none, 0, m⟩, ⟨by rw [hr], by rw [hr] <;> rfl, ⟨Cells.nil _ _, Nat.le_refl _⟩, ⟨Cells.nil _ _, Nat.le_refl _⟩, fun _ h => (by cases h), fun _ _ h => h, news_err⟩, ?_⟩
      conv => whnf
      repeat (first | exact trivial | exact fun _ _ h => h | (refine ⟨by first | exact ⟨rfl, rfl, rfl⟩ | rfl | exact ⟨rfl, rfl⟩ | exact ⟨rfl, fun _ _ => rfl⟩ | exact fun _ _ h => h | (intro _ _ h; cases h; done) | (rw [hr] <;> rfl) | (rw [hr]; done), ?_⟩; conv => whnf))
    · have hs : soundB n k = true := by simpa using hs
      have hh := heard_iff.1 hs
      have hr : stepR n k = heardK (turnN n k) k := by unfold stepR; rw [if_pos ⟨hg, hs⟩]
      have hft := turn_fine hfine hh
      have hlen := hfine.l
      conv => whnf
      refine ⟨⟨n, A, c, m⟩, ⟨hM, by show n.log.items.length ≤ 2 ^ 40; omega⟩, ?_⟩
      conv => whnf
      repeat (first | exact trivial | (refine ⟨by first | exact ⟨rfl, rfl, rfl⟩ | rfl | exact ⟨rfl, rfl⟩ | exact ⟨rfl, fun _ _ => rfl⟩ | exact fun _ _ h => h | (intro _ _ h; cases h; done), ?_⟩; conv => whnf))
      intro _ _
      conv => whnf
      refine Or.inr ⟨[], sc12_4, by kernel_rfl, ?_⟩
      conv => whnf
      refine ⟨fun ht => ?_, fun ht => ?_⟩
      · have ht : k.term > n.log.term := of_decide_eq_true ht
        conv => whnf
        refine ⟨⟨n, .own, [], m, k.term, -1⟩, trivial, ?_⟩
        conv => whnf
        repeat (first | exact trivial | (refine ⟨by first | exact ⟨rfl, rfl, rfl⟩ | rfl | exact ⟨rfl, rfl⟩ | exact ⟨rfl, fun _ _ => rfl⟩ | exact fun _ _ h => h | (intro _ _ h; cases h; done), ?_⟩; conv => whnf))
        intro a ha
        have ha : a = turnN n k := by rw [ha]; unfold turnN; rw [if_pos ht]
        rw [← ha] at hr hft
        conv => whnf
        refine ⟨fun hk1 => ?_, fun hk1 => ?_⟩
        · have hk1 : k.kind = 1 := eq_of_beq hk1
          have hr : stepR n k = heardS a k (askR a k) := by rw [hr]; unfold heardK; rw [if_pos hk1]
          conv => whnf
          refine ⟨⟨a, [], m, k, D, e⟩, ⟨(hft).fit, ⟨hh.a1, by have := hh.a2; omega, hh.c1, by have := hh.c2; omega⟩, by have := hh.l; omega, ⟨hD, hde⟩, fun _ h => (by cases h), by decide⟩, ?_⟩
          conv => whnf
          repeat (first | exact trivial | (refine ⟨by first | exact ⟨rfl, rfl, rfl⟩ | rfl | exact ⟨rfl, rfl⟩ | exact ⟨rfl, fun _ _ => rfl⟩ | exact fun _ _ h => h | (intro _ _ h; cases h; done), ?_⟩; conv => whnf))
          rintro ⟨n', ys, os'⟩ ⟨hn, hw, hs', hsd⟩
          conv => whnf
          refine Or.inr ⟨[3], sc12_24, by kernel_rfl, ?_⟩
          conv => whnf
          repeat (first | exact trivial | (refine ⟨by first | exact ⟨rfl, rfl, rfl⟩ | rfl | exact ⟨rfl, rfl⟩ | exact ⟨rfl, fun _ _ => rfl⟩ | exact fun _ _ h => h | (intro _ _ h; cases h; done), ?_⟩; conv => whnf))
          intro A1 c1 m1 h1
          conv => whnf
          intro A2 c2 m2 h2
          have hx := ext_trans h1.ext h2.ext
          refine ⟨⟨n', A1, c1, os', A2, c2, m2⟩, ⟨hn.trans (by rw [hr] <;> rfl), (since_nil hs').trans (by rw [hr] <;> rfl), ⟨(wide_cells hw h1).ext h2.ext, Nat.le_trans hw.1 h1.le⟩, ⟨.of_sealed h2, h2.le⟩, (hsd.ext h1.ext).ext h2.ext, hx, news_two h1 hw.1 h2 hsd hs'.fresh fun _ _ h => h⟩, ?_⟩
          conv => whnf
          repeat (first | exact trivial | exact fun _ _ h => h | (refine ⟨by first | exact ⟨rfl, rfl, rfl⟩ | rfl | exact ⟨rfl, rfl⟩ | exact ⟨rfl, fun _ _ => rfl⟩ | exact fun _ _ h => h | (intro _ _ h; cases h; done) | (rw [hr] <;> rfl), ?_⟩; conv => whnf))
          exact ⟨hx, fun _ _ h => h⟩
        · have hk1 : ¬ k.kind = 1 := by simpa using hk1
          conv => whnf
          refine ⟨fun hk2 => ?_, fun hk2 => ?_⟩
          · have hk2 : k.kind = 2 := eq_of_beq hk2
            have hr : stepR n k = if voteB a k = true then leadS (orN a k) else ⟨a, [], 0⟩ := by rw [hr]; unfold heardK; rw [if_neg hk1, if_pos hk2]
            conv => whnf
            refine Or.inr ⟨[], sc12_19, by kernel_rfl, ?_⟩
            conv => whnf
            refine ⟨fun hv => ?_, fun hv => ?_⟩
            · have hv : voteB a k = true := by rw [← hv]; unfold voteB; simp only [ifand] <;> rfl
              have hr : stepR n k = leadS (orN a k) := by rw [hr, if_pos hv]
              have hor := orV_lt hft (heard_turn ha hh)
              have hfl := hft.l
              have hfc := hft.c2
              conv => whnf
              refine Or.inr ⟨[], sc12_20, by kernel_rfl, ?_⟩
              conv => whnf
              repeat (first | exact trivial | (refine ⟨by first | exact ⟨rfl, rfl, rfl⟩ | rfl | exact ⟨rfl, rfl⟩ | exact ⟨rfl, fun _ _ => rfl⟩ | exact fun _ _ h => h | (intro _ _ h; cases h; done) | exact hh.f1, ?_⟩; conv => whnf))
              cases hy : enoughB (orN a k) with
              | true =>
                have hr : stepR n k = ⟨winN (orN a k), feedAllK (winN (orN a k)), 0⟩ := by rw [hr]; unfold leadS; rw [if_pos hy]
                refine ⟨⟨orN a k, [], m, true⟩, ⟨or_fit hft, by show (a).log.items.length ≤ 299; omega, hfc, lead_mono' hft, ⟨hor.1, by show orV a k < 256; omega⟩, fun _ h => (by cases h), by decide, hy⟩, ?_⟩
                conv => whnf
                repeat (first | exact trivial | (refine ⟨by first | exact ⟨rfl, rfl, rfl⟩ | rfl | exact ⟨rfl, rfl⟩ | exact ⟨rfl, fun _ _ => rfl⟩ | exact fun _ _ h => h | (intro _ _ h; cases h; done), ?_⟩; conv => whnf))
                rintro ⟨n', A2, c2, os2, m2⟩ ⟨hpost, hext⟩ m3 h3 h4
                obtain ⟨hn', hsince, hsaid, hc, hcp, how⟩ := hpost rfl
                conv => whnf
                refine Or.inr ⟨[3], sc12_24, by kernel_rfl, ?_⟩
                conv => whnf
                repeat (first | exact trivial | (refine ⟨by first | exact ⟨rfl, rfl, rfl⟩ | rfl | exact ⟨rfl, rfl⟩ | exact ⟨rfl, fun _ _ => rfl⟩ | exact fun _ _ h => h | (intro _ _ h; cases h; done), ?_⟩; conv => whnf))
                intro A5 c5 m5 h5
                have hx := ext_trans h3 h5.ext
                refine ⟨⟨n', A2, c2, os2, A5, c5, m5⟩, ⟨hn'.trans (by rw [hr] <;> rfl), (since_nil hsince).trans (by rw [hr, hn'] <;> rfl), ⟨(hc.ext h4).ext h5.ext, hcp⟩, ⟨.of_sealed h5, h5.le⟩, (hsaid.ext h4).ext h5.ext, hx, news_st ⟨how.1.ext h4, how.2⟩ h5 (hsaid.ext h4) hsince.fresh h3⟩, ?_⟩
                conv => whnf
                repeat (first | exact trivial | exact fun _ _ h => h | (refine ⟨by first | exact ⟨rfl, rfl, rfl⟩ | rfl | exact ⟨rfl, rfl⟩ | exact ⟨rfl, fun _ _ => rfl⟩ | exact fun _ _ h => h | (intro _ _ h; cases h; done) | (rw [hr] <;> rfl), ?_⟩; conv => whnf))
                exact ⟨hx, fun _ _ h => h⟩
              | false =>
                have hr : stepR n k = ⟨orN a k, [], 0⟩ := by rw [hr]; unfold leadS; rw [if_neg (by rw [hy]; decide)]
                refine ⟨⟨orN a k, [], m, false⟩, ⟨or_fit hft, by show (a).log.items.length ≤ 299; omega, hfc, lead_mono' hft, ⟨hor.1, by show orV a k < 256; omega⟩, fun _ h => (by cases h), by decide, hy⟩, ?_⟩
                conv => whnf
                repeat (first | exact trivial | (refine ⟨by first | exact ⟨rfl, rfl, rfl⟩ | rfl | exact ⟨rfl, rfl⟩ | exact ⟨rfl, fun _ _ => rfl⟩ | exact fun _ _ h => h | (intro _ _ h; cases h; done), ?_⟩; conv => whnf))
                rintro ⟨n', A2, c2, os2, m2⟩ ⟨_, hext⟩ m3 h3 h4
                conv => whnf
                refine Or.inr ⟨[3], sc12_24, by kernel_rfl, ?_⟩
                conv => whnf
                repeat (first | exact trivial | (refine ⟨by first | exact ⟨rfl, rfl, rfl⟩ | rfl | exact ⟨rfl, rfl⟩ | exact ⟨rfl, fun _ _ => rfl⟩ | exact fun _ _ h => h | (intro _ _ h; cases h; done), ?_⟩; conv => whnf))
                intro A1 c1 m1 h1
                conv => whnf
                intro A2 c2 m2 h2
                have hx := ext_trans h3 (ext_trans h1.ext h2.ext)
                refine ⟨⟨orN a k, A1, c1, [], A2, c2, m2⟩, ⟨by rw [hr], by rw [hr] <;> rfl, ⟨(Cells.of_sealed h1).ext h2.ext, h1.le⟩, ⟨.of_sealed h2, h2.le⟩, fun _ h => (by cases h), hx, news_two h1 (Nat.le_refl _) h2 (fun _ h => (by cases h)) (by intro o h; first | (cases h; done) | (obtain rfl := List.mem_singleton.1 h; exact Or.inl rfl)) (h3)⟩, ?_⟩
                conv => whnf
                repeat (first | exact trivial | exact fun _ _ h => h | (refine ⟨by first | exact ⟨rfl, rfl, rfl⟩ | rfl | exact ⟨rfl, rfl⟩ | exact ⟨rfl, fun _ _ => rfl⟩ | exact fun _ _ h => h | (intro _ _ h; cases h; done) | (rw [hr] <;> rfl), ?_⟩; conv => whnf))
                exact ⟨hx, fun _ _ h => h⟩
            · have hv : voteB a k = false := by rw [← hv]; unfold voteB; simp only [ifand] <;> rfl
              have hr : stepR n k = ⟨a, [], 0⟩ := by rw [hr, if_neg (by rw [hv]; decide)]
              conv => whnf
              refine Or.inr ⟨[3], sc12_24, by kernel_rfl, ?_⟩
              conv => whnf
              repeat (first | exact trivial | (refine ⟨by first | exact ⟨rfl, rfl, rfl⟩ | rfl | exact ⟨rfl, rfl⟩ | exact ⟨rfl, fun _ _ => rfl⟩ | exact fun _ _ h => h | (intro _ _ h; cases h; done), ?_⟩; conv => whnf))
              intro A1 c1 m1 h1
              conv => whnf
              intro A2 c2 m2 h2
              have hx := ext_trans (fun _ _ h => h) (ext_trans h1.ext h2.ext)
              refine ⟨⟨a, A1, c1, [], A2, c2, m2⟩, ⟨by rw [hr], by rw [hr] <;> rfl, ⟨(Cells.of_sealed h1).ext h2.ext, h1.le⟩, ⟨.of_sealed h2, h2.le⟩, fun _ h => (by cases h), hx, news_two h1 (Nat.le_refl _) h2 (fun _ h => (by cases h)) (by intro o h; first | (cases h; done) | (obtain rfl := List.mem_singleton.1 h; exact Or.inl rfl)) ((fun _ _ h => h))⟩, ?_⟩
              conv => whnf
              repeat (first | exact trivial | exact fun _ _ h => h | (refine ⟨by first | exact ⟨rfl, rfl, rfl⟩ | rfl | exact ⟨rfl, rfl⟩ | exact ⟨rfl, fun _ _ => rfl⟩ | exact fun _ _ h => h | (intro _ _ h; cases h; done) | (rw [hr] <;> rfl), ?_⟩; conv => whnf))
              exact ⟨hx, fun _ _ h => h⟩
          · have hk2 : ¬ k.kind = 2 := by simpa using hk2
            conv => whnf
            refine ⟨fun hk4 => ?_, fun hk4 => ?_⟩
            · have hk4 : k.kind = 4 := eq_of_beq hk4
              have hr : stepR n k = gotS a k := by rw [hr]; unfold heardK; rw [if_neg hk1, if_neg hk2, if_pos hk4]
              conv => whnf
              cases hy : gotY a k with
              | true =>
                have hr : stepR n k = ⟨gotN a k, [feedN (gotN a k) k.frm], 0⟩ := by rw [hr]; unfold gotS; rw [if_pos hy]
                refine ⟨⟨a, [], m, k, D, e, true⟩, ⟨hft.fit, hft.rg, hft.c2, hft.mono, ⟨hh.f1, (heard_turn ha hh).f2, hh.a1, by have := hh.a2; omega⟩, fun _ h => (by cases h), by decide, hy, fun h => (by cases h)⟩, ?_⟩
                conv => whnf
                repeat (first | exact trivial | (refine ⟨by first | exact ⟨rfl, rfl, rfl⟩ | rfl | exact ⟨rfl, rfl⟩ | exact ⟨rfl, fun _ _ => rfl⟩ | exact fun _ _ h => h | (intro _ _ h; cases h; done), ?_⟩; conv => whnf))
                rintro ⟨n', A2, c2, os2, m2⟩ ⟨hn', hpost, hext⟩ m3 h3 h4
                obtain ⟨hsince, hsaid, hc, hcp, how⟩ := hpost rfl
                conv => whnf
                refine Or.inr ⟨[3], sc12_24, by kernel_rfl, ?_⟩
                conv => whnf
                repeat (first | exact trivial | (refine ⟨by first | exact ⟨rfl, rfl, rfl⟩ | rfl | exact ⟨rfl, rfl⟩ | exact ⟨rfl, fun _ _ => rfl⟩ | exact fun _ _ h => h | (intro _ _ h; cases h; done), ?_⟩; conv => whnf))
                intro A5 c5 m5 h5
                have hx := ext_trans h3 h5.ext
                refine ⟨⟨n', A2, c2, os2, A5, c5, m5⟩, ⟨hn'.trans (by rw [hr] <;> rfl), (since_nil hsince).trans (by rw [hr, hn'] <;> rfl), ⟨(hc.ext h4).ext h5.ext, hcp⟩, ⟨.of_sealed h5, h5.le⟩, (hsaid.ext h4).ext h5.ext, hx, news_st ⟨how.1.ext h4, how.2⟩ h5 (hsaid.ext h4) hsince.fresh h3⟩, ?_⟩
                conv => whnf
                repeat (first | exact trivial | exact fun _ _ h => h | (refine ⟨by first | exact ⟨rfl, rfl, rfl⟩ | rfl | exact ⟨rfl, rfl⟩ | exact ⟨rfl, fun _ _ => rfl⟩ | exact fun _ _ h => h | (intro _ _ h; cases h; done) | (rw [hr] <;> rfl), ?_⟩; conv => whnf))
                exact ⟨hx, fun _ _ h => h⟩
              | false =>
                have hr : stepR n k = ⟨gotN a k, [], 0⟩ := by rw [hr]; unfold gotS; rw [if_neg (by rw [hy]; decide)]
                refine ⟨⟨a, [], m, k, D, e, false⟩, ⟨hft.fit, hft.rg, hft.c2, hft.mono, ⟨hh.f1, (heard_turn ha hh).f2, hh.a1, by have := hh.a2; omega⟩, fun _ h => (by cases h), by decide, hy, fun h => (by cases h)⟩, ?_⟩
                conv => whnf
                repeat (first | exact trivial | (refine ⟨by first | exact ⟨rfl, rfl, rfl⟩ | rfl | exact ⟨rfl, rfl⟩ | exact ⟨rfl, fun _ _ => rfl⟩ | exact fun _ _ h => h | (intro _ _ h; cases h; done), ?_⟩; conv => whnf))
                rintro ⟨n', A2, c2, os2, m2⟩ ⟨rfl, _, hext⟩ m3 h3 h4
                conv => whnf
                refine Or.inr ⟨[3], sc12_24, by kernel_rfl, ?_⟩
                conv => whnf
                repeat (first | exact trivial | (refine ⟨by first | exact ⟨rfl, rfl, rfl⟩ | rfl | exact ⟨rfl, rfl⟩ | exact ⟨rfl, fun _ _ => rfl⟩ | exact fun _ _ h => h | (intro _ _ h; cases h; done), ?_⟩; conv => whnf))
                intro A1 c1 m1 h1
                conv => whnf
                intro A2 c2 m2 h2
                have hx := ext_trans h3 (ext_trans h1.ext h2.ext)
                refine ⟨⟨gotN a k, A1, c1, [], A2, c2, m2⟩, ⟨by rw [hr], by rw [hr] <;> rfl, ⟨(Cells.of_sealed h1).ext h2.ext, h1.le⟩, ⟨.of_sealed h2, h2.le⟩, fun _ h => (by cases h), hx, news_two h1 (Nat.le_refl _) h2 (fun _ h => (by cases h)) (by intro o h; first | (cases h; done) | (obtain rfl := List.mem_singleton.1 h; exact Or.inl rfl)) (h3)⟩, ?_⟩
                conv => whnf
                repeat (first | exact trivial | exact fun _ _ h => h | (refine ⟨by first | exact ⟨rfl, rfl, rfl⟩ | rfl | exact ⟨rfl, rfl⟩ | exact ⟨rfl, fun _ _ => rfl⟩ | exact fun _ _ h => h | (intro _ _ h; cases h; done) | (rw [hr] <;> rfl), ?_⟩; conv => whnf))
                exact ⟨hx, fun _ _ h => h⟩
            · have hk4 : ¬ k.kind = 4 := by simpa using hk4
              have hr : stepR n k = leaderS a k := by rw [hr]; unfold heardK; rw [if_neg hk1, if_neg hk2, if_neg hk4]
              conv => whnf
              refine Or.inr ⟨[], sc12_7, by kernel_rfl, ?_⟩
              conv => whnf
              refine ⟨fun hlo => ?_, fun hlo => ?_⟩
              · have hlo : k.term < (a).log.term := of_decide_eq_true hlo
                have hr : stepR n k = ⟨a, [sayN a k.frm (ansM 0 false)], 0⟩ := by rw [hr]; unfold leaderS; rw [if_pos hlo]
                conv => whnf
                refine ⟨⟨a, .own, [], m, k.frm, ansM 0 false, none, 0⟩, ⟨by show 0 < 1000; omega, Cells.nil _ _⟩, ?_⟩
                conv => whnf
                repeat (first | exact trivial | (refine ⟨by first | exact ⟨rfl, rfl, rfl⟩ | rfl | exact ⟨rfl, rfl⟩ | exact ⟨rfl, fun _ _ => rfl⟩ | exact fun _ _ h => h | (intro _ _ h; cases h; done), ?_⟩; conv => whnf))
                rintro b rfl
                conv => whnf
                refine Or.inr ⟨[3], sc12_9, by kernel_rfl, ?_⟩
                conv => whnf
                repeat (first | exact trivial | (refine ⟨by first | exact ⟨rfl, rfl, rfl⟩ | rfl | exact ⟨rfl, rfl⟩ | exact ⟨rfl, fun _ _ => rfl⟩ | exact fun _ _ h => h | (intro _ _ h; cases h; done), ?_⟩; conv => whnf))
                intro A1 c1 m1 h1
                conv => whnf
                intro A2 c2 m2 h2
                have hx := ext_trans (fun _ _ h => h) (ext_trans h1.ext h2.ext)
                refine ⟨⟨a, A1, c1, [⟨sayN a k.frm (ansM 0 false), none, 0⟩], A2, c2, m2⟩, ⟨by rw [hr], by rw [hr] <;> rfl, ⟨(Cells.of_sealed h1).ext h2.ext, h1.le⟩, ⟨.of_sealed h2, h2.le⟩, fun _ h => (by obtain rfl := List.mem_singleton.1 h; exact ⟨Cells.nil _ _, Nat.le_refl _, Or.inl rfl⟩), hx, news_two h1 (Nat.le_refl _) h2 (fun _ h => (by obtain rfl := List.mem_singleton.1 h; exact ⟨Cells.nil _ _, Nat.le_refl _, Or.inl rfl⟩)) (by intro o h; first | (cases h; done) | (obtain rfl := List.mem_singleton.1 h; exact Or.inl rfl)) ((fun _ _ h => h))⟩, ?_⟩
                conv => whnf
                repeat (first | exact trivial | exact fun _ _ h => h | (refine ⟨by first | exact ⟨rfl, rfl, rfl⟩ | rfl | exact ⟨rfl, rfl⟩ | exact ⟨rfl, fun _ _ => rfl⟩ | exact fun _ _ h => h | (intro _ _ h; cases h; done) | (rw [hr] <;> rfl), ?_⟩; conv => whnf))
                exact ⟨hx, fun _ _ h => h⟩
              · have hlo : ¬ k.term < (a).log.term := of_decide_eq_false hlo
                conv => whnf
                refine ⟨fun hro => ?_, fun hro => ?_⟩
                · have hro : (a).role = 2 := eq_of_beq hro
                  have hr : stepR n k = ⟨a, [], 0⟩ := by rw [hr]; unfold leaderS; rw [if_neg hlo, if_pos hro]
                  conv => whnf
                  intro A1 c1 m1 h1
                  refine ⟨⟨a, A1, c1, [], none, 0, m1⟩, ⟨by rw [hr], by rw [hr] <;> rfl, ⟨.of_sealed h1, h1.le⟩, ⟨Cells.nil _ _, Nat.le_refl _⟩, fun _ h => (by cases h), h1.ext, news_one h1⟩, ?_⟩
                  conv => whnf
                  repeat (first | exact trivial | exact fun _ _ h => h | (refine ⟨by first | exact ⟨rfl, rfl, rfl⟩ | rfl | exact ⟨rfl, rfl⟩ | exact ⟨rfl, fun _ _ => rfl⟩ | exact fun _ _ h => h | (intro _ _ h; cases h; done) | (rw [hr] <;> rfl), ?_⟩; conv => whnf))
                  exact ⟨h1.ext, fun _ _ h => h⟩
                · have hro : ¬ (a).role = 2 := by simpa using hro
                  conv => whnf
                  refine ⟨⟨a, .own, [], m, k.term, k.frm⟩, trivial, ?_⟩
                  conv => whnf
                  repeat (first | exact trivial | (refine ⟨by first | exact ⟨rfl, rfl, rfl⟩ | rfl | exact ⟨rfl, rfl⟩ | exact ⟨rfl, fun _ _ => rfl⟩ | exact fun _ _ h => h | (intro _ _ h; cases h; done), ?_⟩; conv => whnf))
                  intro f hfe
                  have hff : Fine f := by rw [hfe]; exact follow_fine hft (heard_turn ha hh) hlo
                  have hfe : f = followN a k.term k.frm := hfe
                  conv => whnf
                  refine ⟨fun hk3 => ?_, fun hk3 => ?_⟩
                  · have hk3 : k.kind = 3 := eq_of_beq hk3
                    have hr : stepR n k = heardS f k (appendR f k) := by rw [hr]; unfold leaderS; rw [if_neg hlo, if_neg hro, if_pos hk3, hfe]
                    conv => whnf
                    refine ⟨⟨f, [], m, k, D, e⟩, ⟨(hff).fit, ⟨hh.a1, by have := hh.a2; omega, hh.c1, by have := hh.c2; omega⟩, by have := hh.l; omega, ⟨hD, hde⟩, fun _ h => (by cases h), by decide⟩, ?_⟩
                    conv => whnf
                    repeat (first | exact trivial | (refine ⟨by first | exact ⟨rfl, rfl, rfl⟩ | rfl | exact ⟨rfl, rfl⟩ | exact ⟨rfl, fun _ _ => rfl⟩ | exact fun _ _ h => h | (intro _ _ h; cases h; done), ?_⟩; conv => whnf))
                    rintro ⟨n', ys, os'⟩ ⟨hn, hw, hs', hsd⟩
                    conv => whnf
                    refine Or.inr ⟨[3], sc12_24, by kernel_rfl, ?_⟩
                    conv => whnf
                    repeat (first | exact trivial | (refine ⟨by first | exact ⟨rfl, rfl, rfl⟩ | rfl | exact ⟨rfl, rfl⟩ | exact ⟨rfl, fun _ _ => rfl⟩ | exact fun _ _ h => h | (intro _ _ h; cases h; done), ?_⟩; conv => whnf))
                    intro A1 c1 m1 h1
                    conv => whnf
                    intro A2 c2 m2 h2
                    have hx := ext_trans h1.ext h2.ext
                    refine ⟨⟨n', A1, c1, os', A2, c2, m2⟩, ⟨hn.trans (by rw [hr] <;> rfl), (since_nil hs').trans (by rw [hr] <;> rfl), ⟨(wide_cells hw h1).ext h2.ext, Nat.le_trans hw.1 h1.le⟩, ⟨.of_sealed h2, h2.le⟩, (hsd.ext h1.ext).ext h2.ext, hx, news_two h1 hw.1 h2 hsd hs'.fresh fun _ _ h => h⟩, ?_⟩
                    conv => whnf
                    repeat (first | exact trivial | exact fun _ _ h => h | (refine ⟨by first | exact ⟨rfl, rfl, rfl⟩ | rfl | exact ⟨rfl, rfl⟩ | exact ⟨rfl, fun _ _ => rfl⟩ | exact fun _ _ h => h | (intro _ _ h; cases h; done) | (rw [hr] <;> rfl), ?_⟩; conv => whnf))
                    exact ⟨hx, fun _ _ h => h⟩
                  · have hk3 : ¬ k.kind = 3 := by simpa using hk3
                    have hr : stepR n k = heardS f k (installR f k) := by rw [hr]; unfold leaderS; rw [if_neg hlo, if_neg hro, if_neg hk3, hfe]
                    conv => whnf
                    refine ⟨⟨f, [], m, k, D, e⟩, ⟨(hff).fit, ⟨hh.a1, by have := hh.a2; omega, hh.c1, by have := hh.c2; omega⟩, by have := hh.l; omega, ⟨hD, hde⟩, fun _ h => (by cases h), by decide⟩, ?_⟩
                    conv => whnf
                    repeat (first | exact trivial | (refine ⟨by first | exact ⟨rfl, rfl, rfl⟩ | rfl | exact ⟨rfl, rfl⟩ | exact ⟨rfl, fun _ _ => rfl⟩ | exact fun _ _ h => h | (intro _ _ h; cases h; done), ?_⟩; conv => whnf))
                    rintro ⟨n', ys, os'⟩ ⟨hn, hw, hs', hsd⟩
                    conv => whnf
                    refine Or.inr ⟨[3], sc12_24, by kernel_rfl, ?_⟩
                    conv => whnf
                    repeat (first | exact trivial | (refine ⟨by first | exact ⟨rfl, rfl, rfl⟩ | rfl | exact ⟨rfl, rfl⟩ | exact ⟨rfl, fun _ _ => rfl⟩ | exact fun _ _ h => h | (intro _ _ h; cases h; done), ?_⟩; conv => whnf))
                    intro A1 c1 m1 h1
                    conv => whnf
                    intro A2 c2 m2 h2
                    have hx := ext_trans h1.ext h2.ext
                    refine ⟨⟨n', A1, c1, os', A2, c2, m2⟩, ⟨hn.trans (by rw [hr] <;> rfl), (since_nil hs').trans (by rw [hr] <;> rfl), ⟨(wide_cells hw h1).ext h2.ext, Nat.le_trans hw.1 h1.le⟩, ⟨.of_sealed h2, h2.le⟩, (hsd.ext h1.ext).ext h2.ext, hx, news_two h1 hw.1 h2 hsd hs'.fresh fun _ _ h => h⟩, ?_⟩
                    conv => whnf
                    repeat (first | exact trivial | exact fun _ _ h => h | (refine ⟨by first | exact ⟨rfl, rfl, rfl⟩ | rfl | exact ⟨rfl, rfl⟩ | exact ⟨rfl, fun _ _ => rfl⟩ | exact fun _ _ h => h | (intro _ _ h; cases h; done) | (rw [hr] <;> rfl), ?_⟩; conv => whnf))
                    exact ⟨hx, fun _ _ h => h⟩
      · have ht : ¬ k.term > n.log.term := of_decide_eq_false ht
        have ha : turnN n k = n := by unfold turnN; rw [if_neg ht]
        rw [ha] at hr hft
        conv => whnf
        refine ⟨fun hk1 => ?_, fun hk1 => ?_⟩
        · have hk1 : k.kind = 1 := eq_of_beq hk1
          have hr : stepR n k = heardS n k (askR n k) := by rw [hr]; unfold heardK; rw [if_pos hk1]
          conv => whnf
          refine ⟨⟨n, [], m, k, D, e⟩, ⟨(hft).fit, ⟨hh.a1, by have := hh.a2; omega, hh.c1, by have := hh.c2; omega⟩, by have := hh.l; omega, ⟨hD, hde⟩, fun _ h => (by cases h), by decide⟩, ?_⟩
          conv => whnf
          repeat (first | exact trivial | (refine ⟨by first | exact ⟨rfl, rfl, rfl⟩ | rfl | exact ⟨rfl, rfl⟩ | exact ⟨rfl, fun _ _ => rfl⟩ | exact fun _ _ h => h | (intro _ _ h; cases h; done), ?_⟩; conv => whnf))
          rintro ⟨n', ys, os'⟩ ⟨hn, hw, hs', hsd⟩
          conv => whnf
          refine Or.inr ⟨[3], sc12_24, by kernel_rfl, ?_⟩
          conv => whnf
          repeat (first | exact trivial | (refine ⟨by first | exact ⟨rfl, rfl, rfl⟩ | rfl | exact ⟨rfl, rfl⟩ | exact ⟨rfl, fun _ _ => rfl⟩ | exact fun _ _ h => h | (intro _ _ h; cases h; done), ?_⟩; conv => whnf))
          intro A1 c1 m1 h1
          conv => whnf
          intro A2 c2 m2 h2
          have hx := ext_trans h1.ext h2.ext
          refine ⟨⟨n', A1, c1, os', A2, c2, m2⟩, ⟨hn.trans (by rw [hr] <;> rfl), (since_nil hs').trans (by rw [hr] <;> rfl), ⟨(wide_cells hw h1).ext h2.ext, Nat.le_trans hw.1 h1.le⟩, ⟨.of_sealed h2, h2.le⟩, (hsd.ext h1.ext).ext h2.ext, hx, news_two h1 hw.1 h2 hsd hs'.fresh fun _ _ h => h⟩, ?_⟩
          conv => whnf
          repeat (first | exact trivial | exact fun _ _ h => h | (refine ⟨by first | exact ⟨rfl, rfl, rfl⟩ | rfl | exact ⟨rfl, rfl⟩ | exact ⟨rfl, fun _ _ => rfl⟩ | exact fun _ _ h => h | (intro _ _ h; cases h; done) | (rw [hr] <;> rfl), ?_⟩; conv => whnf))
          exact ⟨hx, fun _ _ h => h⟩
        · have hk1 : ¬ k.kind = 1 := by simpa using hk1
          conv => whnf
          refine ⟨fun hk2 => ?_, fun hk2 => ?_⟩
          · have hk2 : k.kind = 2 := eq_of_beq hk2
            have hr : stepR n k = if voteB n k = true then leadS (orN n k) else ⟨n, [], 0⟩ := by rw [hr]; unfold heardK; rw [if_neg hk1, if_pos hk2]
            conv => whnf
            refine Or.inr ⟨[], sc12_19, by kernel_rfl, ?_⟩
            conv => whnf
            refine ⟨fun hv => ?_, fun hv => ?_⟩
            · have hv : voteB n k = true := by rw [← hv]; unfold voteB; simp only [ifand] <;> rfl
              have hr : stepR n k = leadS (orN n k) := by rw [hr, if_pos hv]
              have hor := orV_lt hft (heard_turn ha.symm hh)
              have hfl := hft.l
              have hfc := hft.c2
              conv => whnf
              refine Or.inr ⟨[], sc12_20, by kernel_rfl, ?_⟩
              conv => whnf
              repeat (first | exact trivial | (refine ⟨by first | exact ⟨rfl, rfl, rfl⟩ | rfl | exact ⟨rfl, rfl⟩ | exact ⟨rfl, fun _ _ => rfl⟩ | exact fun _ _ h => h | (intro _ _ h; cases h; done) | exact hh.f1, ?_⟩; conv => whnf))
              cases hy : enoughB (orN n k) with
              | true =>
                have hr : stepR n k = ⟨winN (orN n k), feedAllK (winN (orN n k)), 0⟩ := by rw [hr]; unfold leadS; rw [if_pos hy]
                refine ⟨⟨orN n k, [], m, true⟩, ⟨or_fit hft, by show (n).log.items.length ≤ 299; omega, hfc, lead_mono' hft, ⟨hor.1, by show orV n k < 256; omega⟩, fun _ h => (by cases h), by decide, hy⟩, ?_⟩
                conv => whnf
                repeat (first | exact trivial | (refine ⟨by first | exact ⟨rfl, rfl, rfl⟩ | rfl | exact ⟨rfl, rfl⟩ | exact ⟨rfl, fun _ _ => rfl⟩ | exact fun _ _ h => h | (intro _ _ h; cases h; done), ?_⟩; conv => whnf))
                rintro ⟨n', A2, c2, os2, m2⟩ ⟨hpost, hext⟩ m3 h3 h4
                obtain ⟨hn', hsince, hsaid, hc, hcp, how⟩ := hpost rfl
                conv => whnf
                refine Or.inr ⟨[3], sc12_24, by kernel_rfl, ?_⟩
                conv => whnf
                repeat (first | exact trivial | (refine ⟨by first | exact ⟨rfl, rfl, rfl⟩ | rfl | exact ⟨rfl, rfl⟩ | exact ⟨rfl, fun _ _ => rfl⟩ | exact fun _ _ h => h | (intro _ _ h; cases h; done), ?_⟩; conv => whnf))
                intro A5 c5 m5 h5
                have hx := ext_trans h3 h5.ext
                refine ⟨⟨n', A2, c2, os2, A5, c5, m5⟩, ⟨hn'.trans (by rw [hr] <;> rfl), (since_nil hsince).trans (by rw [hr, hn'] <;> rfl), ⟨(hc.ext h4).ext h5.ext, hcp⟩, ⟨.of_sealed h5, h5.le⟩, (hsaid.ext h4).ext h5.ext, hx, news_st ⟨how.1.ext h4, how.2⟩ h5 (hsaid.ext h4) hsince.fresh h3⟩, ?_⟩
                conv => whnf
                repeat (first | exact trivial | exact fun _ _ h => h | (refine ⟨by first | exact ⟨rfl, rfl, rfl⟩ | rfl | exact ⟨rfl, rfl⟩ | exact ⟨rfl, fun _ _ => rfl⟩ | exact fun _ _ h => h | (intro _ _ h; cases h; done) | (rw [hr] <;> rfl), ?_⟩; conv => whnf))
                exact ⟨hx, fun _ _ h => h⟩
              | false =>
                have hr : stepR n k = ⟨orN n k, [], 0⟩ := by rw [hr]; unfold leadS; rw [if_neg (by rw [hy]; decide)]
                refine ⟨⟨orN n k, [], m, false⟩, ⟨or_fit hft, by show (n).log.items.length ≤ 299; omega, hfc, lead_mono' hft, ⟨hor.1, by show orV n k < 256; omega⟩, fun _ h => (by cases h), by decide, hy⟩, ?_⟩
                conv => whnf
                repeat (first | exact trivial | (refine ⟨by first | exact ⟨rfl, rfl, rfl⟩ | rfl | exact ⟨rfl, rfl⟩ | exact ⟨rfl, fun _ _ => rfl⟩ | exact fun _ _ h => h | (intro _ _ h; cases h; done), ?_⟩; conv => whnf))
                rintro ⟨n', A2, c2, os2, m2⟩ ⟨_, hext⟩ m3 h3 h4
                conv => whnf
                refine Or.inr ⟨[3], sc12_24, by kernel_rfl, ?_⟩
                conv => whnf
                repeat (first | exact trivial | (refine ⟨by first | exact ⟨rfl, rfl, rfl⟩ | rfl | exact ⟨rfl, rfl⟩ | exact ⟨rfl, fun _ _ => rfl⟩ | exact fun _ _ h => h | (intro _ _ h; cases h; done), ?_⟩; conv => whnf))
                intro A1 c1 m1 h1
                conv => whnf
                intro A2 c2 m2 h2
                have hx := ext_trans h3 (ext_trans h1.ext h2.ext)
                refine ⟨⟨orN n k, A1, c1, [], A2, c2, m2⟩, ⟨by rw [hr], by rw [hr] <;> rfl, ⟨(Cells.of_sealed h1).ext h2.ext, h1.le⟩, ⟨.of_sealed h2, h2.le⟩, fun _ h => (by cases h), hx, news_two h1 (Nat.le_refl _) h2 (fun _ h => (by cases h)) (by intro o h; first | (cases h; done) | (obtain rfl := List.mem_singleton.1 h; exact Or.inl rfl)) (h3)⟩, ?_⟩
                conv => whnf
                repeat (first | exact trivial | exact fun _ _ h => h | (refine ⟨by first | exact ⟨rfl, rfl, rfl⟩ | rfl | exact ⟨rfl, rfl⟩ | exact ⟨rfl, fun _ _ => rfl⟩ | exact fun _ _ h => h | (intro _ _ h; cases h; done) | (rw [hr] <;> rfl), ?_⟩; conv => whnf))
                exact ⟨hx, fun _ _ h => h⟩
            · have hv : voteB n k = false := by rw [← hv]; unfold voteB; simp only [ifand] <;> rfl
              have hr : stepR n k = ⟨n, [], 0⟩ := by rw [hr, if_neg (by rw [hv]; decide)]
              conv => whnf
              refine Or.inr ⟨[3], sc12_24, by kernel_rfl, ?_⟩
              conv => whnf
              repeat (first | exact trivial | (refine ⟨by first | exact ⟨rfl, rfl, rfl⟩ | rfl | exact ⟨rfl, rfl⟩ | exact ⟨rfl, fun _ _ => rfl⟩ | exact fun _ _ h => h | (intro _ _ h; cases h; done), ?_⟩; conv => whnf))
              intro A1 c1 m1 h1
              refine ⟨⟨n, A1, c1, [], none, 0, m1⟩, ⟨by rw [hr], by rw [hr] <;> rfl, ⟨.of_sealed h1, h1.le⟩, ⟨Cells.nil _ _, Nat.le_refl _⟩, fun _ h => (by cases h), h1.ext, news_one h1⟩, ?_⟩
              conv => whnf
              repeat (first | exact trivial | exact fun _ _ h => h | (refine ⟨by first | exact ⟨rfl, rfl, rfl⟩ | rfl | exact ⟨rfl, rfl⟩ | exact ⟨rfl, fun _ _ => rfl⟩ | exact fun _ _ h => h | (intro _ _ h; cases h; done) | (rw [hr] <;> rfl), ?_⟩; conv => whnf))
              exact ⟨h1.ext, fun _ _ h => h⟩
          · have hk2 : ¬ k.kind = 2 := by simpa using hk2
            conv => whnf
            refine ⟨fun hk4 => ?_, fun hk4 => ?_⟩
            · have hk4 : k.kind = 4 := eq_of_beq hk4
              have hr : stepR n k = gotS n k := by rw [hr]; unfold heardK; rw [if_neg hk1, if_neg hk2, if_pos hk4]
              conv => whnf
              cases hy : gotY n k with
              | true =>
                have hr : stepR n k = ⟨gotN n k, [feedN (gotN n k) k.frm], 0⟩ := by rw [hr]; unfold gotS; rw [if_pos hy]
                refine ⟨⟨n, [], m, k, D, e, true⟩, ⟨hft.fit, hft.rg, hft.c2, hft.mono, ⟨hh.f1, (heard_turn ha.symm hh).f2, hh.a1, by have := hh.a2; omega⟩, fun _ h => (by cases h), by decide, hy, fun h => (by cases h)⟩, ?_⟩
                conv => whnf
                repeat (first | exact trivial | (refine ⟨by first | exact ⟨rfl, rfl, rfl⟩ | rfl | exact ⟨rfl, rfl⟩ | exact ⟨rfl, fun _ _ => rfl⟩ | exact fun _ _ h => h | (intro _ _ h; cases h; done), ?_⟩; conv => whnf))
                rintro ⟨n', A2, c2, os2, m2⟩ ⟨hn', hpost, hext⟩ m3 h3 h4
                obtain ⟨hsince, hsaid, hc, hcp, how⟩ := hpost rfl
                conv => whnf
                refine Or.inr ⟨[3], sc12_24, by kernel_rfl, ?_⟩
                conv => whnf
                repeat (first | exact trivial | (refine ⟨by first | exact ⟨rfl, rfl, rfl⟩ | rfl | exact ⟨rfl, rfl⟩ | exact ⟨rfl, fun _ _ => rfl⟩ | exact fun _ _ h => h | (intro _ _ h; cases h; done), ?_⟩; conv => whnf))
                intro A5 c5 m5 h5
                have hx := ext_trans h3 h5.ext
                refine ⟨⟨n', A2, c2, os2, A5, c5, m5⟩, ⟨hn'.trans (by rw [hr] <;> rfl), (since_nil hsince).trans (by rw [hr, hn'] <;> rfl), ⟨(hc.ext h4).ext h5.ext, hcp⟩, ⟨.of_sealed h5, h5.le⟩, (hsaid.ext h4).ext h5.ext, hx, news_st ⟨how.1.ext h4, how.2⟩ h5 (hsaid.ext h4) hsince.fresh h3⟩, ?_⟩
                conv => whnf
                repeat (first | exact trivial | exact fun _ _ h => h | (refine ⟨by first | exact ⟨rfl, rfl, rfl⟩ | rfl | exact ⟨rfl, rfl⟩ | exact ⟨rfl, fun _ _ => rfl⟩ | exact fun _ _ h => h | (intro _ _ h; cases h; done) | (rw [hr] <;> rfl), ?_⟩; conv => whnf))
                exact ⟨hx, fun _ _ h => h⟩
              | false =>
                have hr : stepR n k = ⟨gotN n k, [], 0⟩ := by rw [hr]; unfold gotS; rw [if_neg (by rw [hy]; decide)]
                refine ⟨⟨n, [], m, k, D, e, false⟩, ⟨hft.fit, hft.rg, hft.c2, hft.mono, ⟨hh.f1, (heard_turn ha.symm hh).f2, hh.a1, by have := hh.a2; omega⟩, fun _ h => (by cases h), by decide, hy, fun h => (by cases h)⟩, ?_⟩
                conv => whnf
                repeat (first | exact trivial | (refine ⟨by first | exact ⟨rfl, rfl, rfl⟩ | rfl | exact ⟨rfl, rfl⟩ | exact ⟨rfl, fun _ _ => rfl⟩ | exact fun _ _ h => h | (intro _ _ h; cases h; done), ?_⟩; conv => whnf))
                rintro ⟨n', A2, c2, os2, m2⟩ ⟨rfl, _, hext⟩ m3 h3 h4
                conv => whnf
                refine Or.inr ⟨[3], sc12_24, by kernel_rfl, ?_⟩
                conv => whnf
                repeat (first | exact trivial | (refine ⟨by first | exact ⟨rfl, rfl, rfl⟩ | rfl | exact ⟨rfl, rfl⟩ | exact ⟨rfl, fun _ _ => rfl⟩ | exact fun _ _ h => h | (intro _ _ h; cases h; done), ?_⟩; conv => whnf))
                intro A1 c1 m1 h1
                conv => whnf
                intro A2 c2 m2 h2
                have hx := ext_trans h3 (ext_trans h1.ext h2.ext)
                refine ⟨⟨gotN n k, A1, c1, [], A2, c2, m2⟩, ⟨by rw [hr], by rw [hr] <;> rfl, ⟨(Cells.of_sealed h1).ext h2.ext, h1.le⟩, ⟨.of_sealed h2, h2.le⟩, fun _ h => (by cases h), hx, news_two h1 (Nat.le_refl _) h2 (fun _ h => (by cases h)) (by intro o h; first | (cases h; done) | (obtain rfl := List.mem_singleton.1 h; exact Or.inl rfl)) (h3)⟩, ?_⟩
                conv => whnf
                repeat (first | exact trivial | exact fun _ _ h => h | (refine ⟨by first | exact ⟨rfl, rfl, rfl⟩ | rfl | exact ⟨rfl, rfl⟩ | exact ⟨rfl, fun _ _ => rfl⟩ | exact fun _ _ h => h | (intro _ _ h; cases h; done) | (rw [hr] <;> rfl), ?_⟩; conv => whnf))
                exact ⟨hx, fun _ _ h => h⟩
            · have hk4 : ¬ k.kind = 4 := by simpa using hk4
              have hr : stepR n k = leaderS n k := by rw [hr]; unfold heardK; rw [if_neg hk1, if_neg hk2, if_neg hk4]
              conv => whnf
              refine Or.inr ⟨[], sc12_7, by kernel_rfl, ?_⟩
              conv => whnf
              refine ⟨fun hlo => ?_, fun hlo => ?_⟩
              · have hlo : k.term < (n).log.term := of_decide_eq_true hlo
                have hr : stepR n k = ⟨n, [sayN n k.frm (ansM 0 false)], 0⟩ := by rw [hr]; unfold leaderS; rw [if_pos hlo]
                conv => whnf
                refine ⟨⟨n, .own, [], m, k.frm, ansM 0 false, none, 0⟩, ⟨by show 0 < 1000; omega, Cells.nil _ _⟩, ?_⟩
                conv => whnf
                repeat (first | exact trivial | (refine ⟨by first | exact ⟨rfl, rfl, rfl⟩ | rfl | exact ⟨rfl, rfl⟩ | exact ⟨rfl, fun _ _ => rfl⟩ | exact fun _ _ h => h | (intro _ _ h; cases h; done), ?_⟩; conv => whnf))
                rintro b rfl
                conv => whnf
                refine Or.inr ⟨[3], sc12_9, by kernel_rfl, ?_⟩
                conv => whnf
                repeat (first | exact trivial | (refine ⟨by first | exact ⟨rfl, rfl, rfl⟩ | rfl | exact ⟨rfl, rfl⟩ | exact ⟨rfl, fun _ _ => rfl⟩ | exact fun _ _ h => h | (intro _ _ h; cases h; done), ?_⟩; conv => whnf))
                intro A1 c1 m1 h1
                conv => whnf
                intro A2 c2 m2 h2
                have hx := ext_trans (fun _ _ h => h) (ext_trans h1.ext h2.ext)
                refine ⟨⟨n, A1, c1, [⟨sayN n k.frm (ansM 0 false), none, 0⟩], A2, c2, m2⟩, ⟨by rw [hr], by rw [hr] <;> rfl, ⟨(Cells.of_sealed h1).ext h2.ext, h1.le⟩, ⟨.of_sealed h2, h2.le⟩, fun _ h => (by obtain rfl := List.mem_singleton.1 h; exact ⟨Cells.nil _ _, Nat.le_refl _, Or.inl rfl⟩), hx, news_two h1 (Nat.le_refl _) h2 (fun _ h => (by obtain rfl := List.mem_singleton.1 h; exact ⟨Cells.nil _ _, Nat.le_refl _, Or.inl rfl⟩)) (by intro o h; first | (cases h; done) | (obtain rfl := List.mem_singleton.1 h; exact Or.inl rfl)) ((fun _ _ h => h))⟩, ?_⟩
                conv => whnf
                repeat (first | exact trivial | exact fun _ _ h => h | (refine ⟨by first | exact ⟨rfl, rfl, rfl⟩ | rfl | exact ⟨rfl, rfl⟩ | exact ⟨rfl, fun _ _ => rfl⟩ | exact fun _ _ h => h | (intro _ _ h; cases h; done) | (rw [hr] <;> rfl), ?_⟩; conv => whnf))
                exact ⟨hx, fun _ _ h => h⟩
              · have hlo : ¬ k.term < (n).log.term := of_decide_eq_false hlo
                conv => whnf
                refine ⟨fun hro => ?_, fun hro => ?_⟩
                · have hro : (n).role = 2 := eq_of_beq hro
                  have hr : stepR n k = ⟨n, [], 0⟩ := by rw [hr]; unfold leaderS; rw [if_neg hlo, if_pos hro]
                  conv => whnf
                  intro A1 c1 m1 h1
                  refine ⟨⟨n, A1, c1, [], none, 0, m1⟩, ⟨by rw [hr], by rw [hr] <;> rfl, ⟨.of_sealed h1, h1.le⟩, ⟨Cells.nil _ _, Nat.le_refl _⟩, fun _ h => (by cases h), h1.ext, news_one h1⟩, ?_⟩
                  conv => whnf
                  repeat (first | exact trivial | exact fun _ _ h => h | (refine ⟨by first | exact ⟨rfl, rfl, rfl⟩ | rfl | exact ⟨rfl, rfl⟩ | exact ⟨rfl, fun _ _ => rfl⟩ | exact fun _ _ h => h | (intro _ _ h; cases h; done) | (rw [hr] <;> rfl), ?_⟩; conv => whnf))
                  exact ⟨h1.ext, fun _ _ h => h⟩
                · have hro : ¬ (n).role = 2 := by simpa using hro
                  conv => whnf
                  refine ⟨⟨n, .own, [], m, k.term, k.frm⟩, trivial, ?_⟩
                  conv => whnf
                  repeat (first | exact trivial | (refine ⟨by first | exact ⟨rfl, rfl, rfl⟩ | rfl | exact ⟨rfl, rfl⟩ | exact ⟨rfl, fun _ _ => rfl⟩ | exact fun _ _ h => h | (intro _ _ h; cases h; done), ?_⟩; conv => whnf))
                  intro f hfe
                  have hff : Fine f := by rw [hfe]; exact follow_fine hft (heard_turn ha.symm hh) hlo
                  have hfe : f = followN n k.term k.frm := hfe
                  conv => whnf
                  refine ⟨fun hk3 => ?_, fun hk3 => ?_⟩
                  · have hk3 : k.kind = 3 := eq_of_beq hk3
                    have hr : stepR n k = heardS f k (appendR f k) := by rw [hr]; unfold leaderS; rw [if_neg hlo, if_neg hro, if_pos hk3, hfe]
                    conv => whnf
                    refine ⟨⟨f, [], m, k, D, e⟩, ⟨(hff).fit, ⟨hh.a1, by have := hh.a2; omega, hh.c1, by have := hh.c2; omega⟩, by have := hh.l; omega, ⟨hD, hde⟩, fun _ h => (by cases h), by decide⟩, ?_⟩
                    conv => whnf
                    repeat (first | exact trivial | (refine ⟨by first | exact ⟨rfl, rfl, rfl⟩ | rfl | exact ⟨rfl, rfl⟩ | exact ⟨rfl, fun _ _ => rfl⟩ | exact fun _ _ h => h | (intro _ _ h; cases h; done), ?_⟩; conv => whnf))
                    rintro ⟨n', ys, os'⟩ ⟨hn, hw, hs', hsd⟩
                    conv => whnf
                    refine Or.inr ⟨[3], sc12_24, by kernel_rfl, ?_⟩
                    conv => whnf
                    repeat (first | exact trivial | (refine ⟨by first | exact ⟨rfl, rfl, rfl⟩ | rfl | exact ⟨rfl, rfl⟩ | exact ⟨rfl, fun _ _ => rfl⟩ | exact fun _ _ h => h | (intro _ _ h; cases h; done), ?_⟩; conv => whnf))
                    intro A1 c1 m1 h1
                    conv => whnf
                    intro A2 c2 m2 h2
                    have hx := ext_trans h1.ext h2.ext
                    refine ⟨⟨n', A1, c1, os', A2, c2, m2⟩, ⟨hn.trans (by rw [hr] <;> rfl), (since_nil hs').trans (by rw [hr] <;> rfl), ⟨(wide_cells hw h1).ext h2.ext, Nat.le_trans hw.1 h1.le⟩, ⟨.of_sealed h2, h2.le⟩, (hsd.ext h1.ext).ext h2.ext, hx, news_two h1 hw.1 h2 hsd hs'.fresh fun _ _ h => h⟩, ?_⟩
                    conv => whnf
                    repeat (first | exact trivial | exact fun _ _ h => h | (refine ⟨by first | exact ⟨rfl, rfl, rfl⟩ | rfl | exact ⟨rfl, rfl⟩ | exact ⟨rfl, fun _ _ => rfl⟩ | exact fun _ _ h => h | (intro _ _ h; cases h; done) | (rw [hr] <;> rfl), ?_⟩; conv => whnf))
                    exact ⟨hx, fun _ _ h => h⟩
                  · have hk3 : ¬ k.kind = 3 := by simpa using hk3
                    have hr : stepR n k = heardS f k (installR f k) := by rw [hr]; unfold leaderS; rw [if_neg hlo, if_neg hro, if_neg hk3, hfe]
                    conv => whnf
                    refine ⟨⟨f, [], m, k, D, e⟩, ⟨(hff).fit, ⟨hh.a1, by have := hh.a2; omega, hh.c1, by have := hh.c2; omega⟩, by have := hh.l; omega, ⟨hD, hde⟩, fun _ h => (by cases h), by decide⟩, ?_⟩
                    conv => whnf
                    repeat (first | exact trivial | (refine ⟨by first | exact ⟨rfl, rfl, rfl⟩ | rfl | exact ⟨rfl, rfl⟩ | exact ⟨rfl, fun _ _ => rfl⟩ | exact fun _ _ h => h | (intro _ _ h; cases h; done), ?_⟩; conv => whnf))
                    rintro ⟨n', ys, os'⟩ ⟨hn, hw, hs', hsd⟩
                    conv => whnf
                    refine Or.inr ⟨[3], sc12_24, by kernel_rfl, ?_⟩
                    conv => whnf
                    repeat (first | exact trivial | (refine ⟨by first | exact ⟨rfl, rfl, rfl⟩ | rfl | exact ⟨rfl, rfl⟩ | exact ⟨rfl, fun _ _ => rfl⟩ | exact fun _ _ h => h | (intro _ _ h; cases h; done), ?_⟩; conv => whnf))
                    intro A1 c1 m1 h1
                    conv => whnf
                    intro A2 c2 m2 h2
                    have hx := ext_trans h1.ext h2.ext
                    refine ⟨⟨n', A1, c1, os', A2, c2, m2⟩, ⟨hn.trans (by rw [hr] <;> rfl), (since_nil hs').trans (by rw [hr] <;> rfl), ⟨(wide_cells hw h1).ext h2.ext, Nat.le_trans hw.1 h1.le⟩, ⟨.of_sealed h2, h2.le⟩, (hsd.ext h1.ext).ext h2.ext, hx, news_two h1 hw.1 h2 hsd hs'.fresh fun _ _ h => h⟩, ?_⟩
                    conv => whnf
                    repeat (first | exact trivial | exact fun _ _ h => h | (refine ⟨by first | exact ⟨rfl, rfl, rfl⟩ | rfl | exact ⟨rfl, rfl⟩ | exact ⟨rfl, fun _ _ => rfl⟩ | exact fun _ _ h => h | (intro _ _ h; cases h; done) | (rw [hr] <;> rfl), ?_⟩; conv => whnf))
                    exact ⟨hx, fun _ _ h => h⟩
end Go.Proofs.Ytjpjiniclibgkaa.Sx

namespace Go.Proofs.Ytjpjiniclibgkaa.Sx
open Go

def S14 : List (Nat × Spec) := (12, stepSpec) :: S13
theorem S14_all : ∀ f s, findS S14 f = some s → SpecOk Try.prog f s := CP_cons S13_all step_ok
theorem S14_ok : CPOk Try.prog (CPs S14) := CPs_ok S14_all
theorem ask_eq {a : Node} {k : Msg} : (if (if (k.term == a.log.term) = true then (if decide (k.lastTerm > (lastN a.log).2) = true then true else if (k.lastTerm == (lastN a.log).2) = true then decide (k.last ≥ (lastN a.log).1) else false) else false) = true then (if (a.log.vote == -1) = true then true else a.log.vote == k.frm) else false) = askB a k := by
  unfold askB newerB
  simp only [ifand, ifor]
  generalize (k.term == a.log.term) = t
  generalize (a.log.vote == -1 || a.log.vote == k.frm) = v
  generalize (decide (k.lastTerm > (lastN a.log).2) || ((k.lastTerm == (lastN a.log).2) && decide (k.last ≥ (lastN a.log).1))) = w
  cases t <;> cases v <;> cases w <;> rfl
theorem turn_term {n : Node} {k : Msg} : k.term ≤ (turnN n k).log.term := by
  unfold turnN
  split
  · rename_i h; show k.term ≤ (if k.term > n.log.term then { n.log with term := k.term, vote := -1 } else n.log).term; rw [if_pos h]; exact Int.le_refl _
  · rename_i h; omega
end Go.Proofs.Ytjpjiniclibgkaa.Sx

namespace Go.Proofs.Ytjpjiniclibgkaa.Sx
open Go

def S15 : List (Nat × Spec) := S14
theorem S15_all : ∀ f s, findS S15 f = some s → SpecOk Try.prog f s := S14_all
theorem S15_ok : CPOk Try.prog (CPs S15) := CPs_ok S15_all
theorem yes_not {p : Prop} (hp : p) (h : (!(yes p)) = true) : False := by rw [yes_true.2 hp] at h; cases h
structure SameG where
  xs : List Item
  A : Option Addr
  c : Nat
  D : Option Addr
  e : Nat
  m : Mem
def sameItemsSpec : Spec where
  A := SameG
  R := fun ⟨xs, A, _, D, _, m⟩ => Cells m A (itemsV xs) ∧ Cells m D (itemsV xs) ∧ xs.length < 2 ^ 62
  J := fun ⟨_, _, _, _, _, m⟩ => m
  args := fun ⟨xs, A, c, D, e, _⟩ => [.sl A xs.length c, .sl D xs.length e]
  h := fun _ => []
  nx := 0
  Bb := Unit
  C := fun _ _ => True
  out := fun _ _ => .ret (.b true)
  h2 := fun _ _ => []
  nx2 := 0
  md := 1
set_option maxRecDepth 100000 in
set_option maxHeartbeats 1600000 in
theorem sameItems_ok : SpecOk Try.prog 24 sameItemsSpec := by
  refine spec_of_exec (fn := Try.f24) (c := Try.f24.body.getD .skip) (d := 1) (lv := ([0, 1, 4, 5, 10, 12, 13, 14, 24])) (DP := DPx T1 (CPs S15) ([0, 1, 4, 5, 10, 12, 13, 14, 24])) T1_ok S15_ok (fun B => DPx_ok T1_ok ord S15_ok B) sameItemsSpec (by rfl) (by rfl) (by rfl) (fun _ => Nat.le_of_ble_eq_true (by kernel_rfl)) ?_
  rintro ⟨xs, A, c, D, e, m⟩ ⟨hM, hD, hl⟩
  conv => whnf
  refine ⟨fun h => ?_, fun _ => ?_⟩
  · exact absurd h (by simp)
  obtain ⟨s, hs⟩ : ∃ s, s = xs.length := ⟨_, rfl⟩
  conv => whnf
  refine ⟨Nat, fun i => i ≤ s, fun i => ⟨26, [⟨0, [], .sl A s c⟩, ⟨1, [], .sl D s e⟩, ⟨12, [], .i .i64 s⟩, ⟨13, [], .i .i64 i⟩], [], [], 0⟩, fun _ => m, fun i => s - i, ⟨0, rfl, Nat.zero_le _, ?_⟩, ?_⟩
  conv => whnf
  · conv => whnf
    repeat (first | exact trivial | (refine ⟨by first | exact ⟨rfl, rfl, rfl⟩ | rfl | exact ⟨rfl, rfl⟩ | exact ⟨rfl, fun _ _ => rfl⟩ | exact fun _ _ h => h | (intro _ _ h; cases h; done) | exact ⟨rfl, hs.symm, rfl⟩ | exact congrArg Int.ofNat hs.symm, ?_⟩; conv => whnf))
  · intro i hi
    refine ⟨fun hlt => ?_, fun hge => ?_⟩
    conv => whnf
    · have hlt : i < s := by have h2 : (i : Int) < (s : Int) := of_decide_eq_true hlt; omega
      obtain ⟨x, hx⟩ := getIx (xs := xs) (hs ▸ hlt)
      conv => whnf
      refine Or.inr ⟨[], sc24_6, by kernel_rfl, ?_⟩
      conv => whnf
      refine ⟨⟨Int.natCast_nonneg _, by show (i : Int) < (s : Int); omega, hM.someX hx⟩, ?_⟩
      conv => whnf
      refine ⟨.g (itemC x), ⟨rfl, rfl, mem_item hM hx⟩, ?_⟩
      conv => whnf
      refine ⟨⟨Int.natCast_nonneg _, by show (i : Int) < (s : Int); omega, hD.someX hx⟩, ?_⟩
      conv => whnf
      refine ⟨.g (itemC x), ⟨rfl, rfl, mem_item hD hx⟩, ?_⟩
      conv => whnf
      refine ⟨fun h => (yes_not ⟨rfl, ⟨rfl, rfl, rfl, rfl, rfl, trivial⟩, trivial⟩ h).elim, fun _ => ?_⟩
      refine ⟨i + 1, rfl, ⟨hlt, by show s - (i + 1) < s - i; omega⟩, ?_⟩
      conv => whnf
      repeat (first | exact trivial | (refine ⟨by first | exact ⟨rfl, rfl, rfl⟩ | rfl | exact ⟨rfl, rfl⟩ | exact ⟨rfl, fun _ _ => rfl⟩ | exact fun _ _ h => h | (intro _ _ h; cases h; done) | exact wrapi_succ (by omega), ?_⟩; conv => whnf))
    · have hge : i = s := by have h2 : ¬ (i : Int) < (s : Int) := of_decide_eq_false hge; omega
      refine ⟨(), trivial, ?_⟩
      conv => whnf
      repeat (first | exact trivial | exact fun _ _ h => h | (refine ⟨by first | exact ⟨rfl, rfl, rfl⟩ | rfl | exact ⟨rfl, rfl⟩ | exact ⟨rfl, fun _ _ => rfl⟩ | exact fun _ _ h => h | (intro _ _ h; cases h; done), ?_⟩; conv => whnf))
structure SameL where
  l : Log
  A : Option Addr
  c : Nat
  D : Option Addr
  e : Nat
  m : Mem
def sameLogSpec : Spec where
  A := SameL
  R := fun ⟨l, A, _, D, _, m⟩ => Cells m A (itemsV l.items) ∧ Cells m D (itemsV l.items) ∧ l.items.length < 2 ^ 62
  J := fun ⟨_, _, _, _, _, m⟩ => m
  args := fun ⟨l, A, c, D, e, _⟩ => [.g (logC l (.sl A l.items.length c)), .g (logC l (.sl D l.items.length e))]
  h := fun _ => []
  nx := 0
  Bb := Unit
  C := fun _ _ => True
  out := fun _ _ => .ret (.b true)
  h2 := fun _ _ => []
  nx2 := 0
  md := 1
def S16 : List (Nat × Spec) := (24, sameItemsSpec) :: S15
theorem S16_all : ∀ f s, findS S16 f = some s → SpecOk Try.prog f s := CP_cons S15_all sameItems_ok
theorem S16_ok : CPOk Try.prog (CPs S16) := CPs_ok S16_all
set_option maxRecDepth 100000 in
set_option maxHeartbeats 1600000 in
theorem sameLog_ok : SpecOk Try.prog 39 sameLogSpec := by
  refine spec_of_exec (fn := Try.f39) (c := Try.f39.body.getD .skip) (d := 0) (lv := ([0, 1, 2, 3, 4])) (DP := DPx T1 (CPs S16) ([0, 1, 2, 3, 4])) T1_ok S16_ok (fun B => DPx_ok T1_ok ord S16_ok B) sameLogSpec (by rfl) (by rfl) (by rfl) (fun _ => Nat.le_of_ble_eq_true (by kernel_rfl)) ?_
  rintro ⟨l, A, c, D, e, m⟩ ⟨hM, hD, hl⟩
  conv => whnf
  refine ⟨fun h => ?_, fun h => absurd h (by simp)⟩
  conv => whnf
  refine ⟨⟨l.items, A, c, D, e, m⟩, ⟨hM, hD, hl⟩, ?_⟩
  conv => whnf
  repeat (first | exact trivial | (refine ⟨by first | exact ⟨rfl, rfl, rfl⟩ | rfl | exact ⟨rfl, rfl⟩ | exact ⟨rfl, fun _ _ => rfl⟩ | exact fun _ _ h => h | (intro _ _ h; cases h; done), ?_⟩; conv => whnf))
  intro _ _
  refine ⟨(), trivial, ?_⟩
  conv => whnf
  repeat (first | exact trivial | exact fun _ _ h => h | (refine ⟨by first | exact ⟨rfl, rfl, rfl⟩ | rfl | exact ⟨rfl, rfl⟩ | exact ⟨rfl, fun _ _ => rfl⟩ | exact fun _ _ h => h | (intro _ _ h; cases h; done), ?_⟩; conv => whnf))
structure SameN where
  n : Node
  A : Option Addr
  c : Nat
  D : Option Addr
  e : Nat
  m : Mem
def sameNodeSpec : Spec where
  A := SameN
  R := fun ⟨n, A, _, D, _, m⟩ => Cells m A (itemsV n.log.items) ∧ Cells m D (itemsV n.log.items) ∧ n.log.items.length < 2 ^ 62
  J := fun ⟨_, _, _, _, _, m⟩ => m
  args := fun ⟨n, A, c, D, e, _⟩ => [.g (nodeC n (.sl A n.log.items.length c)), .g (nodeC n (.sl D n.log.items.length e))]
  h := fun _ => []
  nx := 0
  Bb := Unit
  C := fun _ _ => True
  out := fun _ _ => .ret (.b true)
  h2 := fun _ _ => []
  nx2 := 0
  md := 1
def S17 : List (Nat × Spec) := (39, sameLogSpec) :: S16
theorem S17_all : ∀ f s, findS S17 f = some s → SpecOk Try.prog f s := CP_cons S16_all sameLog_ok
theorem S17_ok : CPOk Try.prog (CPs S17) := CPs_ok S17_all
set_option maxRecDepth 100000 in
set_option maxHeartbeats 1600000 in
theorem sameNode_ok : SpecOk Try.prog 14 sameNodeSpec := by
  refine spec_of_exec (fn := Try.f14) (c := Try.f14.body.getD .skip) (d := 0) (lv := ([0, 1, 2, 3, 4])) (DP := DPx T1 (CPs S17) ([0, 1, 2, 3, 4])) T1_ok S17_ok (fun B => DPx_ok T1_ok ord S17_ok B) sameNodeSpec (by rfl) (by rfl) (by rfl) (fun _ => Nat.le_of_ble_eq_true (by kernel_rfl)) ?_
  rintro ⟨n, A, c, D, e, m⟩ ⟨hM, hD, hl⟩
  conv => whnf
  refine ⟨fun h => ?_, fun h => absurd h (by simp)⟩
  conv => whnf
  refine ⟨⟨n.log, A, c, D, e, m⟩, ⟨hM, hD, hl⟩, ?_⟩
  conv => whnf
  repeat (first | exact trivial | (refine ⟨by first | exact ⟨rfl, rfl, rfl⟩ | rfl | exact ⟨rfl, rfl⟩ | exact ⟨rfl, fun _ _ => rfl⟩ | exact fun _ _ h => h | (intro _ _ h; cases h; done), ?_⟩; conv => whnf))
  intro _ _
  conv => whnf
  refine ⟨(), trivial, ?_⟩
  conv => whnf
  repeat (first | exact trivial | exact fun _ _ h => h | (refine ⟨by first | exact ⟨rfl, rfl, rfl⟩ | rfl | exact ⟨rfl, rfl⟩ | exact ⟨rfl, fun _ _ => rfl⟩ | exact fun _ _ h => h | (intro _ _ h; cases h; done) | (rw [yes_true.2 (fun _ _ => rfl), yes_true.2 (fun _ _ => rfl)]; simp), ?_⟩; conv => whnf))
structure SameM where
  k : Msg
  A : Option Addr
  c : Nat
  D : Option Addr
  e : Nat
  m : Mem
def sameMsgSpec : Spec where
  A := SameM
  R := fun ⟨k, A, _, D, _, m⟩ => Cells m A (itemsV k.items) ∧ Cells m D (itemsV k.items) ∧ k.items.length < 2 ^ 62
  J := fun ⟨_, _, _, _, _, m⟩ => m
  args := fun ⟨k, A, c, D, e, _⟩ => [.g (msgC k (.sl A k.items.length c)), .g (msgC k (.sl D k.items.length e))]
  h := fun _ => []
  nx := 0
  Bb := Unit
  C := fun _ _ => True
  out := fun _ _ => .ret (.b true)
  h2 := fun _ _ => []
  nx2 := 0
  md := 1
set_option maxRecDepth 100000 in
set_option maxHeartbeats 1600000 in
theorem sameMsg_ok : SpecOk Try.prog 60 sameMsgSpec := by
  refine spec_of_exec (fn := Try.f60) (c := Try.f60.body.getD .skip) (d := 0) (lv := ([0, 1, 2, 3, 4])) (DP := DPx T1 (CPs S17) ([0, 1, 2, 3, 4])) T1_ok S17_ok (fun B => DPx_ok T1_ok ord S17_ok B) sameMsgSpec (by rfl) (by rfl) (by rfl) (fun _ => Nat.le_of_ble_eq_true (by kernel_rfl)) ?_
  rintro ⟨k, A, c, D, e, m⟩ ⟨hM, hD, hl⟩
  conv => whnf
  refine ⟨fun h => ?_, fun h => absurd h (by simp)⟩
  conv => whnf
  refine ⟨⟨k.items, A, c, D, e, m⟩, ⟨hM, hD, hl⟩, ?_⟩
  conv => whnf
  repeat (first | exact trivial | (refine ⟨by first | exact ⟨rfl, rfl, rfl⟩ | rfl | exact ⟨rfl, rfl⟩ | exact ⟨rfl, fun _ _ => rfl⟩ | exact fun _ _ h => h | (intro _ _ h; cases h; done), ?_⟩; conv => whnf))
  intro _ _
  conv => whnf
  refine ⟨(), trivial, ?_⟩
  conv => whnf
  repeat (first | exact trivial | exact fun _ _ h => h | (refine ⟨by first | exact ⟨rfl, rfl, rfl⟩ | rfl | exact ⟨rfl, rfl⟩ | exact ⟨rfl, fun _ _ => rfl⟩ | exact fun _ _ h => h | (intro _ _ h; cases h; done), ?_⟩; conv => whnf))
structure SameMs where
  ks : List Msg
  os : List OMsg
  A : Option Addr
  c : Nat
  ps : List OMsg
  D : Option Addr
  e : Nat
  m : Mem
def sameMsgsSpec : Spec where
  A := SameMs
  R := fun ⟨ks, os, A, _, ps, D, _, m⟩ => (os.map (·.k) = ks ∧ ps.map (·.k) = ks) ∧ (Cells m A (saidV os) ∧ Said m os) ∧ (Cells m D (saidV ps) ∧ Said m ps) ∧ ks.length < 2 ^ 62 ∧ ∀ k ∈ ks, k.items.length < 2 ^ 62
  J := fun ⟨_, _, _, _, _, _, _, m⟩ => m
  args := fun ⟨_, os, A, c, ps, D, e, _⟩ => [.sl A os.length c, .sl D ps.length e]
  h := fun _ => []
  nx := 0
  Bb := Unit
  C := fun _ _ => True
  out := fun _ _ => .ret (.b true)
  h2 := fun _ _ => []
  nx2 := 0
  md := 1
def S18 : List (Nat × Spec) := (60, sameMsgSpec) :: (14, sameNodeSpec) :: S17
theorem S18_all : ∀ f s, findS S18 f = some s → SpecOk Try.prog f s := CP_cons (CP_cons S17_all sameNode_ok) sameMsg_ok
theorem S18_ok : CPOk Try.prog (CPs S18) := CPs_ok S18_all
theorem getIm {xs : List OMsg} {i : Nat} (h : i < xs.length) : ∃ x, xs[i]? = some x := ⟨_, List.getElem?_eq_getElem h⟩
theorem said_drop (os : List OMsg) : ∀ k, (saidV os).drop (k * 10) = saidV (os.drop k) := by
  induction os with
  | nil => intro k; simp [saidV]
  | cons x r ih =>
    intro k
    cases k with
    | zero => simp [saidV]
    | succ k =>
      have h6 : (k + 1) * 10 = (msgV x).length + k * 10 := by show _ = 10 + _; omega
      show (msgV x ++ saidV r).drop _ = saidV (r.drop k)
      rw [h6, List.drop_append, Nat.add_sub_cancel_left, ih k, List.drop_eq_nil_of_le (Nat.le_add_right _ _), List.nil_append]
theorem said_at {os : List OMsg} {i : Nat} {o : OMsg} (h : os[i]? = some o) : ((saidV os).drop (i * 10)).take 10 = msgV o := by
  have hd : os.drop i = o :: os.drop (i + 1) := by
    rw [List.drop_eq_getElem_cons (List.getElem?_eq_some_iff.1 h).1, (List.getElem?_eq_some_iff.1 h).2]
  rw [said_drop, hd]
  rfl
theorem mem_msg {m : Mem} {A : Option Addr} {os : List OMsg} {i : Nat} {o : OMsg} (hM : Cells m A (saidV os)) (h : os[i]? = some o) : rdM m A (i * 10 + 0) 10 (dens η0 (msgC o.k (.sl o.A o.k.items.length o.c))) := hM.rd rfl rfl (by decide) (by rw [Nat.add_zero, said_at h]; rfl)
theorem Cells.someM {m : Mem} {A : Option Addr} {os : List OMsg} {i : Nat} {o : OMsg} (hM : Cells m A (saidV os)) (h : os[i]? = some o) : A.isSome = true := by
  have hl := (List.getElem?_eq_some_iff.1 h).1
  obtain ⟨a, ha, _⟩ := hM 0 ((saidV os)[0]'(by rw [saidV_len]; omega)) (List.getElem?_eq_getElem _)
  rw [ha]; rfl
set_option maxRecDepth 100000 in
set_option maxHeartbeats 1600000 in
theorem sameMsgs_ok : SpecOk Try.prog 15 sameMsgsSpec := by
  refine spec_of_exec (fn := Try.f15) (c := Try.f15.body.getD .skip) (d := 1) (lv := ([0, 1, 4, 5, 10, 12, 13, 14, 25])) (DP := DPx T1 (CPs S18) ([0, 1, 4, 5, 10, 12, 13, 14, 25])) T1_ok S18_ok (fun B => DPx_ok T1_ok ord S18_ok B) sameMsgsSpec (by rfl) (by rfl) (by rfl) (fun _ => Nat.le_of_ble_eq_true (by kernel_rfl)) ?_
  rintro ⟨ks, os, A, c, ps, D, e, m⟩ ⟨⟨ho, hp⟩, ⟨hM, hMs⟩, ⟨hD, hDs⟩, hl, hls⟩
  have hso : os.length = ks.length := by rw [← ho, List.length_map]
  have hsp : ps.length = ks.length := by rw [← hp, List.length_map]
  conv => whnf
  refine ⟨fun h => ?_, fun _ => ?_⟩
  · exact absurd h (by rw [hso, hsp]; simp)
  obtain ⟨s, hs⟩ : ∃ s, s = ks.length := ⟨_, rfl⟩
  rw [← hs] at hso hsp
  conv => whnf
  refine ⟨Nat, fun i => i ≤ s, fun i => ⟨27, [⟨0, [], .sl A s c⟩, ⟨1, [], .sl D s e⟩, ⟨12, [], .i .i64 s⟩, ⟨13, [], .i .i64 i⟩], [], [], 0⟩, fun _ => m, fun i => s - i, ⟨0, rfl, Nat.zero_le _, ?_⟩, ?_⟩
  conv => whnf
  · conv => whnf
    repeat (first | exact trivial | (refine ⟨by first | exact ⟨rfl, rfl, rfl⟩ | rfl | exact ⟨rfl, rfl⟩ | exact ⟨rfl, fun _ _ => rfl⟩ | exact fun _ _ h => h | (intro _ _ h; cases h; done) | exact ⟨rfl, hso, rfl⟩ | exact ⟨rfl, hsp, rfl⟩ | exact congrArg Int.ofNat hso, ?_⟩; conv => whnf))
  · intro i hi
    refine ⟨fun hlt => ?_, fun hge => ?_⟩
    conv => whnf
    · have hlt : i < s := by have h2 : (i : Int) < (s : Int) := of_decide_eq_true hlt; omega
      obtain ⟨o, hox⟩ := getIm (xs := os) (hso ▸ hlt)
      obtain ⟨p, hpx⟩ := getIm (xs := ps) (hsp ▸ hlt)
      have hko : ks[i]? = some o.k := by rw [← ho, List.getElem?_map, hox]; rfl
      have hkp : ks[i]? = some p.k := by rw [← hp, List.getElem?_map, hpx]; rfl
      have hk : p.k = o.k := by rw [hko] at hkp; exact (Option.some.inj hkp).symm
      have hom : o ∈ os := List.mem_of_getElem? hox
      have hpm : p ∈ ps := List.mem_of_getElem? hpx
      have hkm : o.k ∈ ks := List.mem_of_getElem? hko
      have hcp := (hDs p hpm).1
      rw [hk] at hcp
      have hrp := mem_msg hD hpx
      rw [hk] at hrp
      conv => whnf
      refine Or.inr ⟨[], sc15_6, by kernel_rfl, ?_⟩
      conv => whnf
      refine ⟨⟨Int.natCast_nonneg _, by show (i : Int) < (s : Int); omega, hM.someM hox⟩, ?_⟩
      conv => whnf
      refine ⟨.g (msgC o.k (.sl o.A o.k.items.length o.c)), ⟨rfl, rfl, mem_msg hM hox⟩, ?_⟩
      conv => whnf
      refine ⟨⟨Int.natCast_nonneg _, by show (i : Int) < (s : Int); omega, hD.someM hpx⟩, ?_⟩
      conv => whnf
      refine ⟨.g (msgC o.k (.sl p.A o.k.items.length p.c)), ⟨rfl, rfl, hrp⟩, ?_⟩
      conv => whnf
      refine ⟨⟨o.k, o.A, o.c, p.A, p.c, m⟩, ⟨(hMs o hom).1, hcp, hls _ hkm⟩, ?_⟩
      conv => whnf
      repeat (first | exact trivial | (refine ⟨by first | exact ⟨rfl, rfl, rfl⟩ | rfl | exact ⟨rfl, rfl⟩ | exact ⟨rfl, fun _ _ => rfl⟩ | exact fun _ _ h => h | (intro _ _ h; cases h; done), ?_⟩; conv => whnf))
      intro _ _
      conv => whnf
      refine ⟨fun h => (by cases h), fun _ => ?_⟩
      refine ⟨i + 1, rfl, ⟨hlt, by show s - (i + 1) < s - i; omega⟩, ?_⟩
      conv => whnf
      repeat (first | exact trivial | (refine ⟨by first | exact ⟨rfl, rfl, rfl⟩ | rfl | exact ⟨rfl, rfl⟩ | exact ⟨rfl, fun _ _ => rfl⟩ | exact fun _ _ h => h | (intro _ _ h; cases h; done) | exact wrapi_succ (by omega), ?_⟩; conv => whnf))
    · have hge : i = s := by have h2 : ¬ (i : Int) < (s : Int) := of_decide_eq_false hge; omega
      refine ⟨(), trivial, ?_⟩
      conv => whnf
      repeat (first | exact trivial | exact fun _ _ h => h | (refine ⟨by first | exact ⟨rfl, rfl, rfl⟩ | rfl | exact ⟨rfl, rfl⟩ | exact ⟨rfl, fun _ _ => rfl⟩ | exact fun _ _ h => h | (intro _ _ h; cases h; done), ?_⟩; conv => whnf))
end Go.Proofs.Ytjpjiniclibgkaa.Sx

namespace Go.Proofs.Ytjpjiniclibgkaa.Sx
open Go

def S19 : List (Nat × Spec) := (15, sameMsgsSpec) :: S18
theorem S19_all : ∀ f s, findS S19 f = some s → SpecOk Try.prog f s := CP_cons S18_all sameMsgs_ok
theorem S19_ok : CPOk Try.prog (CPs S19) := CPs_ok S19_all
def emptyL : Log := ⟨0, -1, 0, 0, ByteArray.empty, []⟩
def emptySpec : Spec where
  A := Mem
  R := fun _ => True
  J := fun m => m
  args := fun _ => []
  h := fun _ => []
  nx := 0
  Bb := Unit
  C := fun _ _ => True
  out := fun _ _ => .ret (.g (logC emptyL (.sl none 0 0)))
  h2 := fun _ _ => []
  nx2 := 0
set_option maxRecDepth 100000 in
theorem empty_ok : SpecOk Try.prog 40 emptySpec := by
  refine spec_of_exec (fn := Try.f40) (c := Try.f40.body.getD .skip) (d := 0) (lv := ([0])) (DP := DPx T1 (CPs S19) ([0])) T1_ok S19_ok (fun B => DPx_ok T1_ok ord S19_ok B) emptySpec (by rfl) (by rfl) (by rfl) (fun _ => Nat.le_of_ble_eq_true (by kernel_rfl)) ?_
  intro m _
  conv => whnf
  refine ⟨(), trivial, ?_⟩
  conv => whnf
  repeat (first | exact trivial | exact fun _ _ h => h | (refine ⟨by first | exact ⟨rfl, rfl, rfl⟩ | rfl | exact ⟨rfl, rfl⟩ | exact ⟨rfl, fun _ _ => rfl⟩ | exact fun _ _ h => h | (intro _ _ h; cases h; done), ?_⟩; conv => whnf))
def newB (me size : Int) (l : Log) : Bool := !(decide (size < 1) || decide (size > 7) || decide (me < 0) || decide (me ≥ size) || !(goodLogB l size))
def newR (me size : Int) (l : Log) : StepR := if newB me size l = true then ⟨⟨me, size, l, 0, -1, l.base, 0, fun _ => 0, fun _ => 0⟩, [], 0⟩ else ⟨zeroN, [], 1⟩
structure NewG where
  me : Int
  size : Int
  l : Log
  A : Option Addr
  c : Nat
  m : Mem
structure NewB where
  n : Node
  A : Option Addr
  c : Nat
  m : Mem
def newSpec : Spec where
  A := NewG
  R := fun ⟨_, _, l, A, _, m⟩ => Cells m A (itemsV l.items) ∧ l.items.length < 2 ^ 62
  J := fun ⟨_, _, _, _, _, m⟩ => m
  args := fun ⟨me, size, l, A, c, _⟩ => [.i .i64 me, .i .i64 size, .g (logC l (.sl A l.items.length c))]
  h := fun _ => []
  nx := 0
  Bb := NewB
  C := fun ⟨me, size, l, _, _, m⟩ b => b.n = (newR me size l).n ∧ (Cells b.m b.A (itemsV b.n.log.items) ∧ b.n.log.items.length ≤ b.c) ∧ ∀ x o, m x = some o → b.m x = some o
  out := fun ⟨me, size, l, _, _, _⟩ b => .ret (.t [.g (nodeC b.n (.sl b.A b.n.log.items.length b.c)), .i .i64 (newR me size l).e])
  h2 := fun _ _ => []
  nx2 := 0
  J2 := fun _ b => b.m
  ext := true
  md := 2
  so := true
set_option maxRecDepth 100000 in
set_option maxHeartbeats 1600000 in
theorem new_ok : SpecOk Try.prog 32 newSpec := by
  refine spec_of_exec (fn := Try.f32) (c := Try.f32.body.getD .skip) (d := 0) (lv := ([0, 1, 2, 5, 6, 7, 28])) (DP := DPx T1 (CPs S19) ([0, 1, 2, 5, 6, 7, 28])) T1_ok S19_ok (fun B => DPx_ok T1_ok ord S19_ok B) newSpec (by rfl) (by rfl) (by rfl) (fun _ => Nat.le_of_ble_eq_true (by kernel_rfl)) ?_
  rintro ⟨me, size, l, A, c, m⟩ ⟨hM, hl⟩
  have hnB : newB me size l = !(((decide (size < 1) || decide (size > 7) || decide (me < 0) || decide (me ≥ size))) || !(goodLogB l size)) := by unfold newB; rfl
  conv => whnf
  refine ⟨fun h => ?_, fun h => ?_⟩
  · simp only [ifor] at h
    have hr : newR me size l = ⟨zeroN, [], 1⟩ := by unfold newR; rw [hnB, h]; rfl
    refine ⟨fun _ => ?_, fun h => (by cases h)⟩
    conv => whnf
    conv => whnf
    refine ⟨⟨zeroN, none, 0, m⟩, ⟨by rw [hr], ⟨Cells.nil _ _, Nat.le_refl _⟩, fun _ _ h => h⟩, ?_⟩
    conv => whnf
    repeat (first | exact trivial | exact fun _ _ h => h | (refine ⟨by first | exact ⟨rfl, rfl, rfl⟩ | rfl | exact ⟨rfl, rfl⟩ | exact ⟨rfl, fun _ _ => rfl⟩ | exact fun _ _ h => h | (intro _ _ h; cases h; done) | (rw [hr] <;> rfl), ?_⟩; conv => whnf))
  · simp only [ifor] at h
    conv => whnf
    refine ⟨⟨l, size, A, c, m⟩, ⟨hM, hl⟩, ?_⟩
    conv => whnf
    repeat (first | exact trivial | (refine ⟨by first | exact ⟨rfl, rfl, rfl⟩ | rfl | exact ⟨rfl, rfl⟩ | exact ⟨rfl, fun _ _ => rfl⟩ | exact fun _ _ h => h | (intro _ _ h; cases h; done), ?_⟩; conv => whnf))
    intro _ _
    conv => whnf
    refine ⟨fun hg => ?_, fun hg => ?_⟩
    · have hg : goodLogB l size = false := by simpa using hg
      have hr : newR me size l = ⟨zeroN, [], 1⟩ := by unfold newR; rw [hnB, h, hg]; rfl
      conv => whnf
      refine ⟨⟨zeroN, none, 0, m⟩, ⟨by rw [hr], ⟨Cells.nil _ _, Nat.le_refl _⟩, fun _ _ h => h⟩, ?_⟩
      conv => whnf
      repeat (first | exact trivial | exact fun _ _ h => h | (refine ⟨by first | exact ⟨rfl, rfl, rfl⟩ | rfl | exact ⟨rfl, rfl⟩ | exact ⟨rfl, fun _ _ => rfl⟩ | exact fun _ _ h => h | (intro _ _ h; cases h; done) | (rw [hr] <;> rfl), ?_⟩; conv => whnf))
    · have hg : goodLogB l size = true := by simpa using hg
      have hr : newR me size l = ⟨⟨me, size, l, 0, -1, l.base, 0, fun _ => 0, fun _ => 0⟩, [], 0⟩ := by unfold newR; rw [hnB, h, hg]; rfl
      have hlb := (last_of hg).2.2.2
      conv => whnf
      refine Or.inr ⟨[0], sc32_3, by kernel_rfl, ?_⟩
      conv => whnf
      refine ⟨⟨l, A, c, m⟩, ⟨hM, by show l.items.length ≤ 2 ^ 40; omega⟩, ?_⟩
      conv => whnf
      repeat (first | exact trivial | (refine ⟨by first | exact ⟨rfl, rfl, rfl⟩ | rfl | exact ⟨rfl, rfl⟩ | exact ⟨rfl, fun _ _ => rfl⟩ | exact fun _ _ h => h | (intro _ _ h; cases h; done), ?_⟩; conv => whnf))
      intro _ _
      repeat (first | exact trivial | (refine ⟨by first | exact ⟨rfl, rfl, rfl⟩ | rfl | exact ⟨rfl, rfl⟩ | exact ⟨rfl, fun _ _ => rfl⟩ | exact fun _ _ h => h | (intro _ _ h; cases h; done), ?_⟩; conv => whnf))
      conv => whnf
      intro A1 c1 m1 h1
      refine ⟨⟨⟨me, size, l, 0, -1, l.base, 0, fun _ => 0, fun _ => 0⟩, A1, c1, m1⟩, ⟨by rw [hr], ⟨.of_sealed h1, h1.le⟩, h1.ext⟩, ?_⟩
      conv => whnf
      repeat (first | exact trivial | exact fun _ _ h => h | (refine ⟨by first | exact ⟨rfl, rfl, rfl⟩ | rfl | exact ⟨rfl, rfl⟩ | exact ⟨rfl, fun _ _ => rfl⟩ | exact fun _ _ h => h | (intro _ _ h; cases h; done) | (rw [hr] <;> rfl), ?_⟩; conv => whnf))
      exact ⟨h1.ext, fun _ _ h => h⟩
set_option maxRecDepth 100000 in
set_option maxHeartbeats 1600000 in
theorem refNew_ok : SpecOk Try.prog 33 newSpec := by
  refine spec_of_exec (fn := Try.f33) (c := Try.f33.body.getD .skip) (d := 0) (lv := ([0, 1, 2, 5, 6, 7, 28])) (DP := DPx T1 (CPs S19) ([0, 1, 2, 5, 6, 7, 28])) T1_ok S19_ok (fun B => DPx_ok T1_ok ord S19_ok B) newSpec (by rfl) (by rfl) (by rfl) (fun _ => Nat.le_of_ble_eq_true (by kernel_rfl)) ?_
  rintro ⟨me, size, l, A, c, m⟩ ⟨hM, hl⟩
  have hnB : newB me size l = !(((decide (size < 1) || decide (size > 7) || decide (me < 0) || decide (me ≥ size))) || !(goodLogB l size)) := by unfold newB; rfl
  conv => whnf
  refine ⟨fun h => ?_, fun h => ?_⟩
  · simp only [ifor] at h
    have hr : newR me size l = ⟨zeroN, [], 1⟩ := by unfold newR; rw [hnB, h]; rfl
    refine ⟨fun _ => ?_, fun h => (by cases h)⟩
    conv => whnf
    conv => whnf
    refine ⟨⟨zeroN, none, 0, m⟩, ⟨by rw [hr], ⟨Cells.nil _ _, Nat.le_refl _⟩, fun _ _ h => h⟩, ?_⟩
    conv => whnf
    repeat (first | exact trivial | exact fun _ _ h => h | (refine ⟨by first | exact ⟨rfl, rfl, rfl⟩ | rfl | exact ⟨rfl, rfl⟩ | exact ⟨rfl, fun _ _ => rfl⟩ | exact fun _ _ h => h | (intro _ _ h; cases h; done) | (rw [hr] <;> rfl), ?_⟩; conv => whnf))
  · simp only [ifor] at h
    conv => whnf
    refine ⟨⟨l, size, A, c, m⟩, ⟨hM, hl⟩, ?_⟩
    conv => whnf
    repeat (first | exact trivial | (refine ⟨by first | exact ⟨rfl, rfl, rfl⟩ | rfl | exact ⟨rfl, rfl⟩ | exact ⟨rfl, fun _ _ => rfl⟩ | exact fun _ _ h => h | (intro _ _ h; cases h; done), ?_⟩; conv => whnf))
    intro _ _
    conv => whnf
    refine ⟨fun hg => ?_, fun hg => ?_⟩
    · have hg : goodLogB l size = false := by simpa using hg
      have hr : newR me size l = ⟨zeroN, [], 1⟩ := by unfold newR; rw [hnB, h, hg]; rfl
      conv => whnf
      refine ⟨⟨zeroN, none, 0, m⟩, ⟨by rw [hr], ⟨Cells.nil _ _, Nat.le_refl _⟩, fun _ _ h => h⟩, ?_⟩
      conv => whnf
      repeat (first | exact trivial | exact fun _ _ h => h | (refine ⟨by first | exact ⟨rfl, rfl, rfl⟩ | rfl | exact ⟨rfl, rfl⟩ | exact ⟨rfl, fun _ _ => rfl⟩ | exact fun _ _ h => h | (intro _ _ h; cases h; done) | (rw [hr] <;> rfl), ?_⟩; conv => whnf))
    · have hg : goodLogB l size = true := by simpa using hg
      have hr : newR me size l = ⟨⟨me, size, l, 0, -1, l.base, 0, fun _ => 0, fun _ => 0⟩, [], 0⟩ := by unfold newR; rw [hnB, h, hg]; rfl
      have hlb := (last_of hg).2.2.2
      conv => whnf
      refine Or.inr ⟨[0], sc33_3, by kernel_rfl, ?_⟩
      conv => whnf
      refine ⟨⟨l, A, c, m⟩, ⟨hM, by show l.items.length ≤ 2 ^ 40; omega⟩, ?_⟩
      conv => whnf
      repeat (first | exact trivial | (refine ⟨by first | exact ⟨rfl, rfl, rfl⟩ | rfl | exact ⟨rfl, rfl⟩ | exact ⟨rfl, fun _ _ => rfl⟩ | exact fun _ _ h => h | (intro _ _ h; cases h; done), ?_⟩; conv => whnf))
      intro _ _
      repeat (first | exact trivial | (refine ⟨by first | exact ⟨rfl, rfl, rfl⟩ | rfl | exact ⟨rfl, rfl⟩ | exact ⟨rfl, fun _ _ => rfl⟩ | exact fun _ _ h => h | (intro _ _ h; cases h; done), ?_⟩; conv => whnf))
      conv => whnf
      intro A1 c1 m1 h1
      refine ⟨⟨⟨me, size, l, 0, -1, l.base, 0, fun _ => 0, fun _ => 0⟩, A1, c1, m1⟩, ⟨by rw [hr], ⟨.of_sealed h1, h1.le⟩, h1.ext⟩, ?_⟩
      conv => whnf
      repeat (first | exact trivial | exact fun _ _ h => h | (refine ⟨by first | exact ⟨rfl, rfl, rfl⟩ | rfl | exact ⟨rfl, rfl⟩ | exact ⟨rfl, fun _ _ => rfl⟩ | exact fun _ _ h => h | (intro _ _ h; cases h; done) | (rw [hr] <;> rfl), ?_⟩; conv => whnf))
      exact ⟨h1.ext, fun _ _ h => h⟩
end Go.Proofs.Ytjpjiniclibgkaa.Sx

namespace Go.Proofs.Ytjpjiniclibgkaa.Sx
open Go

def S20 : List (Nat × Spec) := (40, emptySpec) :: (32, newSpec) :: (33, newSpec) :: S19
theorem S20_all : ∀ f s, findS S20 f = some s → SpecOk Try.prog f s := CP_cons (CP_cons (CP_cons S19_all refNew_ok) new_ok) empty_ok
theorem S20_ok : CPOk Try.prog (CPs S20) := CPs_ok S20_all
def askM (last term : Int) : Msg := mkM 1 last term 0 false [] ByteArray.empty
structure AskG where
  n : Node
  os : List OMsg
  m : Mem
  last : Int
  term : Int
  to : Int
def cellsH (last term : Int) : Heap := [(3, .st 75 [.p 0 0]), (4, .st 3 [.i .i64 last]), (5, .st 3 [.i .i64 term])]
/-- One other node is asked. -/
def askOneSpec : Spec where
  A := AskG
  R := fun ⟨_, os, _, _, _, _⟩ => os.length < 1000
  J := fun ⟨_, _, m, _, _, _⟩ => m
  args := fun ⟨_, _, _, _, _, to⟩ => [.i .i64 to, .p 3 0, .p 4 0, .p 5 0]
  h := fun ⟨n, os, _, last, term, _⟩ => cellsH last term ++ turnH 78 1 2 n .own os
  nx := 6
  Bb := List OMsg
  C := fun ⟨n, os, _, last, term, to⟩ b => b = os ++ [⟨sayN n to (askM last term), none, 0⟩]
  out := fun _ _ => .ret (.t [])
  h2 := fun ⟨n, _, _, last, term, _⟩ b => cellsH last term ++ turnH 78 6 7 n .own b
  nx2 := 8
set_option maxRecDepth 100000 in
theorem askOne_ok : SpecOk Try.prog 66 askOneSpec := by
  refine spec_of_exec (fn := Try.f66) (c := Try.f66.body.getD .skip) (d := 0) (lv := ([0, 1, 2, 3])) (DP := DPx T1 (CPs S20) ([0, 1, 2, 3])) T1_ok S20_ok (fun B => DPx_ok T1_ok ord S20_ok B) askOneSpec (by rfl) (by rfl) (by rfl) (fun _ => Nat.le_of_ble_eq_true (by kernel_rfl)) ?_
  rintro ⟨n, os, m, last, term, to⟩ hos
  conv => whnf
  refine ⟨⟨n, .own, os, m, to, askM last term, none, 0⟩, ⟨hos, Cells.nil _ _⟩, ?_⟩
  conv => whnf
  repeat (first | exact trivial | (refine ⟨by first | exact ⟨rfl, rfl, rfl⟩ | rfl | exact ⟨rfl, rfl⟩ | exact ⟨rfl, fun _ _ => rfl⟩ | exact fun _ _ h => h | (intro _ _ h; cases h; done), ?_⟩; conv => whnf))
  rintro b rfl
  refine ⟨_, rfl, ?_⟩
  conv => whnf
  repeat (first | exact trivial | exact fun _ _ h => h | (refine ⟨by first | exact ⟨rfl, rfl, rfl⟩ | rfl | exact ⟨rfl, rfl⟩ | exact ⟨rfl, fun _ _ => rfl⟩ | exact fun _ _ h => h | (intro _ _ h; cases h; done), ?_⟩; conv => whnf))
structure AskAG where
  n : Node
  os : List OMsg
  m : Mem
  last : Int
  term : Int
def asksK (n : Node) (last term : Int) (i : Nat) : List Msg := (othersL n i).map fun i : Nat => sayN n (i : Int) (askM last term)
def askAllSpec : Spec where
  A := AskAG
  R := fun ⟨n, os, m, _, _⟩ => (1 ≤ n.size ∧ n.size ≤ 7) ∧ os.length < 900 ∧ Said m os
  J := fun ⟨_, _, m, _, _⟩ => m
  args := fun _ => [.p 0 0, .fn 66 [] [.p 3 0, .p 4 0, .p 5 0]]
  h := fun ⟨n, os, _, last, term⟩ => cellsH last term ++ turnH 78 1 2 n .own os
  nx := 6
  Bb := List OMsg
  C := fun ⟨n, os, m, last, term⟩ b => Since m os b (asksK n last term n.size.toNat) ∧ Said m b
  out := fun _ _ => .ret (.t [])
  h2 := fun ⟨n, _, _, last, term⟩ b => cellsH last term ++ turnH 78 6 7 n .own b
  nx2 := 8
def S21 : List (Nat × Spec) := (66, askOneSpec) :: S20
theorem S21_all : ∀ f s, findS S21 f = some s → SpecOk Try.prog f s := CP_cons S20_all askOne_ok
theorem S21_ok : CPOk Try.prog (CPs S21) := CPs_ok S21_all
structure AskL where
  i : Nat
  os : List OMsg
theorem asks_yes {n : Node} {last term : Int} {i : Nat} (h : ((i : Int) != n.me) = true) : asksK n last term (i + 1) = asksK n last term i ++ [sayN n (i : Int) (askM last term)] := by
  unfold asksK; rw [others_yes h, List.map_append]; rfl
theorem asks_no {n : Node} {last term : Int} {i : Nat} (h : ((i : Int) != n.me) = false) : asksK n last term (i + 1) = asksK n last term i := by
  unfold asksK; rw [others_no h]
theorem asks_len (n : Node) (last term : Int) (i : Nat) : (asksK n last term i).length ≤ i := by
  unfold asksK; rw [List.length_map]; exact others_len n i
set_option maxRecDepth 100000 in
theorem askAll_ok : SpecOk Try.prog 63 askAllSpec := by
  refine spec_of_exec (fn := Try.f63) (c := Try.f63.body.getD .skip) (d := 1) (lv := ([0, 1, 4, 9, 10, 11, 19])) (DP := DPx T1 (CPs S21) ([0, 1, 4, 9, 10, 11, 19])) T1_ok S21_ok (fun B => DPx_ok T1_ok ord S21_ok B) askAllSpec (by rfl) (by rfl) (by rfl) (fun _ => Nat.le_of_ble_eq_true (by kernel_rfl)) ?_
  rintro ⟨n, os, m, last, term⟩ ⟨⟨hs1, hs2⟩, hos, hsaid⟩
  conv => whnf
  refine ⟨AskL, fun ⟨i, os'⟩ => (i : Int) ≤ n.size ∧ Since m os os' (asksK n last term i) ∧ Said m os', fun ⟨i, os'⟩ => ⟨24, [⟨0, [], .p 0 0⟩, ⟨1, [], .fn 66 [] [.p 3 0, .p 4 0, .p 5 0]⟩, ⟨9, [], .i .i64 n.size⟩, ⟨10, [], .i .i64 i⟩], [], cellsH last term ++ turnH 78 6 7 n .own os', 8⟩, fun _ => m, fun ⟨i, _⟩ => n.size.toNat - i, ⟨⟨0, os⟩, rfl, ⟨by show (0 : Int) ≤ _; omega, Since.refl os, hsaid⟩, ?_⟩, ?_⟩
  conv => whnf
  · conv => whnf
    repeat (first | exact trivial | (refine ⟨by first | exact ⟨rfl, rfl, rfl⟩ | rfl | exact ⟨rfl, rfl⟩ | exact ⟨rfl, fun _ _ => rfl⟩ | exact fun _ _ h => h | (intro _ _ h; cases h; done), ?_⟩; conv => whnf))
  · rintro ⟨i, os'⟩ ⟨hi, hsince, hsaid'⟩
    refine ⟨fun hlt => ?_, fun hge => ?_⟩
    conv => whnf
    · have hlt : (i : Int) < n.size := of_decide_eq_true hlt
      have hlen := hsince.len
      have hol := asks_len n last term i
      refine ⟨fun hne => ?_, fun heq => ?_⟩
      conv => whnf
      · conv => whnf
        refine ⟨⟨n, os', m, last, term, (i : Int)⟩, by show os'.length < 1000; omega, ?_⟩
        conv => whnf
        repeat (first | exact trivial | (refine ⟨by first | exact ⟨rfl, rfl, rfl⟩ | rfl | exact ⟨rfl, rfl⟩ | exact ⟨rfl, fun _ _ => rfl⟩ | exact fun _ _ h => h | (intro _ _ h; cases h; done), ?_⟩; conv => whnf))
        rintro os2 rfl
        refine ⟨⟨i + 1, os' ++ [⟨sayN n (i : Int) (askM last term), none, 0⟩]⟩, rfl, ⟨⟨by show ((i + 1 : Nat) : Int) ≤ n.size; omega, by rw [asks_yes hne]; exact hsince.snoc rfl, hsaid'.snoc (Cells.nil _ _)⟩, by show n.size.toNat - (i + 1) < n.size.toNat - i; omega⟩, ?_⟩
        conv => whnf
        repeat (first | exact trivial | (refine ⟨by first | exact ⟨rfl, rfl, rfl⟩ | rfl | exact ⟨rfl, rfl⟩ | exact ⟨rfl, fun _ _ => rfl⟩ | exact fun _ _ h => h | (intro _ _ h; cases h; done) | exact wrapi_succ (by omega), ?_⟩; conv => whnf))
      · refine ⟨⟨i + 1, os'⟩, rfl, ⟨⟨by show ((i + 1 : Nat) : Int) ≤ n.size; omega, by rw [asks_no heq]; exact hsince, hsaid'⟩, by show n.size.toNat - (i + 1) < n.size.toNat - i; omega⟩, ?_⟩
        conv => whnf
        repeat (first | exact trivial | (refine ⟨by first | exact ⟨rfl, rfl, rfl⟩ | rfl | exact ⟨rfl, rfl⟩ | exact ⟨rfl, fun _ _ => rfl⟩ | exact fun _ _ h => h | (intro _ _ h; cases h; done) | exact wrapi_succ (by omega), ?_⟩; conv => whnf))
    · have hge : ¬ (i : Int) < n.size := of_decide_eq_false hge
      have hin : n.size.toNat = i := by omega
      refine ⟨os', ⟨by rw [hin]; exact hsince, hsaid'⟩, ?_⟩
      conv => whnf
      repeat (first | exact trivial | exact fun _ _ h => h | (refine ⟨by first | exact ⟨rfl, rfl, rfl⟩ | rfl | exact ⟨rfl, rfl⟩ | exact ⟨rfl, fun _ _ => rfl⟩ | exact fun _ _ h => h | (intro _ _ h; cases h; done), ?_⟩; conv => whnf))
def candN (n : Node) : Node := { followN n (n.log.term + 1) (-1) with role := 1, log := { (followN n (n.log.term + 1) (-1)).log with vote := n.me }, votes := IntKind.i64.wrap (1 * 2 ^ (min n.me.toNat IntKind.i64.bits)) }
def asksOf (n : Node) : List Msg := asksK (candN n) (lastN n.log).1 (lastN n.log).2 n.size.toNat
def timeoutR (n : Node) : StepR :=
  if goodB n = true then (if n.role = 2 ∨ n.log.term ≥ 1099511627776 then ⟨n, [], 0⟩ else ⟨(leadS (candN n)).n, asksOf n ++ (leadS (candN n)).ks, 0⟩) else ⟨zeroN, [], 1⟩
def turnSpec (f : Node → StepR) : Spec where
  A := NodeG
  R := fun ⟨n, A, c, m⟩ => Cells m A (itemsV n.log.items) ∧ n.log.items.length ≤ c ∧ n.log.items.length < 2 ^ 62
  J := fun ⟨_, _, _, m⟩ => m
  args := fun ⟨n, A, c, _⟩ => [.g (nodeC n (.sl A n.log.items.length c))]
  h := fun _ => []
  nx := 0
  Bb := StepB
  C := fun ⟨n, _, _, m⟩ b => b.n = (f n).n ∧ b.os.map (·.k) = (f n).ks ∧ Told m b
  out := fun ⟨n, _, _, _⟩ b => outN b (f n).e
  h2 := fun _ _ => []
  nx2 := 0
  J2 := fun _ b => b.m
  ext := true
  md := 2
  so := true
theorem cand_fine {n : Node} (h : Fine n) (ht : n.log.term < 1099511627776) : Fine (candN n) := by
  have hlog : (followN n (n.log.term + 1) (-1)).log = { n.log with term := n.log.term + 1, vote := -1 } := by show (if n.log.term + 1 > n.log.term then _ else _) = _; rw [if_pos (by omega)]
  have hlog2 : (candN n).log = { n.log with term := n.log.term + 1, vote := n.me } := by show { (followN n (n.log.term + 1) (-1)).log with vote := n.me } = _; rw [hlog]
  have hli : lastI (candN n) = lastI n := by unfold lastI; rw [hlog2]
  have := h.s1; have := h.s2; have := h.t1; have := h.b1; have := h.ris.2; have := h.c1; have := h.c2; have := h.m1; have := h.m2
  have hll : lastI n = n.log.base + n.log.items.length := rfl
  have hw : 0 ≤ (candN n).votes ∧ (candN n).votes < 2 ^ n.size.toNat := by
    show 0 ≤ IntKind.i64.wrap (1 * 2 ^ (min n.me.toNat IntKind.i64.bits)) ∧ IntKind.i64.wrap (1 * 2 ^ (min n.me.toNat IntKind.i64.bits)) < 2 ^ n.size.toNat
    have key : ((List.range 8).all fun s => (List.range s).all fun i => decide (0 ≤ IntKind.i64.wrap (1 * 2 ^ (min i IntKind.i64.bits))) && decide (IntKind.i64.wrap (1 * 2 ^ (min i IntKind.i64.bits)) < 2 ^ s)) = true := by kernel_rfl
    have := List.all_eq_true.1 (List.all_eq_true.1 key n.size.toNat (List.mem_range.2 (by omega))) n.me.toNat (List.mem_range.2 (by omega))
    simpa using this
  refine ⟨h.s1, h.s2, h.m1, h.m2, ?_, ?_, ?_, ?_, ?_, ?_, ?_, ?_, ?_, by show (0 : Int) ≤ 1; omega, by show (1 : Int) ≤ 2; omega, by show (-1 : Int) ≤ -1; omega, by show (-1 : Int) < n.size; omega, ?_, ?_, hw.1, hw.2, ?_⟩
  all_goals try rw [hlog2]
  · show 0 ≤ n.log.term + 1; omega
  · show n.log.term + 1 ≤ _; omega
  · show (-1 : Int) ≤ n.me; omega
  · show n.me < n.size; omega
  · exact h.b1
  · exact h.b2
  · exact h.bt
  · exact h.l
  · exact ⟨h.ris.1, by show endT n.log.baseTerm n.log.items ≤ n.log.term + 1; omega⟩
  · exact h.c1
  · rw [hli]; exact h.c2
  · exact ⟨fun i hi => by rw [hli]; show (0 : Int) ≤ 0 ∧ (0 : Int) ≤ _; omega, fun i hi => by rw [hli]; show (0 : Int) ≤ 0 ∧ (0 : Int) ≤ _; omega⟩
theorem cand_last {n : Node} : lastN (candN n).log = lastN n.log := by
  have hlog : (followN n (n.log.term + 1) (-1)).log = { n.log with term := n.log.term + 1, vote := -1 } := by show (if n.log.term + 1 > n.log.term then _ else _) = _; rw [if_pos (by omega)]
  have hlog2 : (candN n).log = { n.log with term := n.log.term + 1, vote := n.me } := by show { (followN n (n.log.term + 1) (-1)).log with vote := n.me } = _; rw [hlog]
  rw [hlog2]; rfl
def S22 : List (Nat × Spec) := (63, askAllSpec) :: S21
theorem S22_all : ∀ f s, findS S22 f = some s → SpecOk Try.prog f s := CP_cons S21_all askAll_ok
theorem S22_ok : CPOk Try.prog (CPs S22) := CPs_ok S22_all
set_option maxRecDepth 100000 in
set_option maxHeartbeats 1600000 in
theorem timeout_ok : SpecOk Try.prog 26 (turnSpec timeoutR) := by
  refine spec_of_exec (fn := Try.f26) (c := Try.f26.body.getD .skip) (d := 0) (lv := ([0, 1, 2, 3, 4, 5, 6, 7, 10, 28])) (DP := DPx T1 (CPs S22) ([0, 1, 2, 3, 4, 5, 6, 7, 10, 28])) T1_ok S22_ok (fun B => DPx_ok T1_ok ord S22_ok B) (turnSpec timeoutR) (by rfl) (by rfl) (by rfl) (fun _ => Nat.le_of_ble_eq_true (by kernel_rfl)) ?_
  rintro ⟨n, A, c, m⟩ ⟨hM, hcap, hl⟩
  conv => whnf
  refine ⟨⟨n, A, c, m⟩, ⟨hM, hl⟩, ?_⟩
  conv => whnf
  repeat (first | exact trivial | (refine ⟨by first | exact ⟨rfl, rfl, rfl⟩ | rfl | exact ⟨rfl, rfl⟩ | exact ⟨rfl, fun _ _ => rfl⟩ | exact fun _ _ h => h | (intro _ _ h; cases h; done), ?_⟩; conv => whnf))
  intro _ _
  conv => whnf
  refine ⟨fun hg => ?_, fun hg => ?_⟩
  · have hg : goodB n = false := by simpa using hg
    have hr : timeoutR n = ⟨zeroN, [], 1⟩ := by unfold timeoutR; rw [if_neg (by rw [hg]; decide)]
    conv => whnf
    refine ⟨⟨zeroN, none, 0, [], none, 0, m⟩, ⟨by rw [hr], by rw [hr] <;> rfl, ⟨Cells.nil _ _, Nat.le_refl _⟩, ⟨Cells.nil _ _, Nat.le_refl _⟩, fun _ h => (by cases h), fun _ _ h => h, news_err⟩, ?_⟩
    conv => whnf
    repeat (first | exact trivial | exact fun _ _ h => h | (refine ⟨by first | exact ⟨rfl, rfl, rfl⟩ | rfl | exact ⟨rfl, rfl⟩ | exact ⟨rfl, fun _ _ => rfl⟩ | exact fun _ _ h => h | (intro _ _ h; cases h; done) | (rw [hr] <;> rfl), ?_⟩; conv => whnf))
  · have hg : goodB n = true := by simpa using hg
    have hfine := fine_iff.1 hg
    have hlen := hfine.l
    conv => whnf
    refine ⟨⟨n, A, c, m⟩, ⟨hM, by show n.log.items.length ≤ 2 ^ 40; omega⟩, ?_⟩
    conv => whnf
    repeat (first | exact trivial | (refine ⟨by first | exact ⟨rfl, rfl, rfl⟩ | rfl | exact ⟨rfl, rfl⟩ | exact ⟨rfl, fun _ _ => rfl⟩ | exact fun _ _ h => h | (intro _ _ h; cases h; done), ?_⟩; conv => whnf))
    intro _ _
    conv => whnf
    refine ⟨fun h => ?_, fun h => ?_⟩
    · have h : n.role = 2 ∨ n.log.term ≥ 1099511627776 := by rw [ifor] at h; simpa using h
      have hr : timeoutR n = ⟨n, [], 0⟩ := by unfold timeoutR; rw [if_pos hg, if_pos h]
      conv => whnf
      intro A1 c1 m1 h1
      refine ⟨⟨n, A1, c1, [], none, 0, m1⟩, ⟨by rw [hr], by rw [hr] <;> rfl, ⟨.of_sealed h1, h1.le⟩, ⟨Cells.nil _ _, Nat.le_refl _⟩, fun _ h => (by cases h), h1.ext, news_one h1⟩, ?_⟩
      conv => whnf
      repeat (first | exact trivial | exact fun _ _ h => h | (refine ⟨by first | exact ⟨rfl, rfl, rfl⟩ | rfl | exact ⟨rfl, rfl⟩ | exact ⟨rfl, fun _ _ => rfl⟩ | exact fun _ _ h => h | (intro _ _ h; cases h; done) | (rw [hr] <;> rfl), ?_⟩; conv => whnf))
      exact ⟨h1.ext, fun _ _ h => h⟩
    · have h : ¬ (n.role = 2 ∨ n.log.term ≥ 1099511627776) := by rw [ifor] at h; simpa using h
      have hr : timeoutR n = ⟨(leadS (candN n)).n, asksOf n ++ (leadS (candN n)).ks, 0⟩ := by unfold timeoutR; rw [if_pos hg, if_neg h]
      have ht : n.log.term < 1099511627776 := by omega
      have hcf := cand_fine hfine ht
      have ht1 := hfine.t1
      have hw1 : IntKind.i64.wrap (n.log.term + 1) = n.log.term + 1 := wrapi ⟨by omega, by omega⟩
      have hm1 := hfine.m1
      have hcl := cand_last (n := n)
      have hcs : (candN n).size = n.size := rfl
      have hlen2 := asks_len (candN n) (lastN n.log).1 (lastN n.log).2 n.size.toNat
      have hs1 := hfine.s1
      have hs2 := hfine.s2
      have hlc := hcf.l
      have hcc := hcf.c2
      have hwv := hcf.w2
      have hpw := pow_le7 ⟨hs1, hs2⟩
      have hlI : lastI (candN n) = (candN n).log.base + (candN n).log.items.length := rfl
      conv => whnf
      refine Or.inr ⟨[2, 4], sc26_6, by kernel_rfl, ?_⟩
      conv => whnf
      refine ⟨⟨n, .own, [], m, n.log.term + 1, -1⟩, trivial, ?_⟩
      conv => whnf
      repeat (first | exact trivial | (refine ⟨by first | exact ⟨rfl, rfl, rfl⟩ | rfl | exact ⟨rfl, rfl⟩ | exact ⟨rfl, fun _ _ => rfl⟩ | exact fun _ _ h => h | (intro _ _ h; cases h; done) | exact hw1, ?_⟩; conv => whnf))
      rintro b rfl
      conv => whnf
      refine Or.inr ⟨[4], sc26_7, by kernel_rfl, ?_⟩
      conv => whnf
      repeat (first | exact trivial | (refine ⟨by first | exact ⟨rfl, rfl, rfl⟩ | rfl | exact ⟨rfl, rfl⟩ | exact ⟨rfl, fun _ _ => rfl⟩ | exact fun _ _ h => h | (intro _ _ h; cases h; done) | exact hm1, ?_⟩; conv => whnf))
      intro A2 c2 m2 h2
      refine ⟨⟨(candN n).log, A2, c2, m2⟩, ⟨.of_sealed h2, by show (candN n).log.items.length < 2 ^ 62; omega⟩, ?_⟩
      conv => whnf
      repeat (first | exact trivial | (refine ⟨by first | exact ⟨rfl, rfl, rfl⟩ | rfl | exact ⟨rfl, rfl⟩ | exact ⟨rfl, fun _ _ => rfl⟩ | exact fun _ _ h => h | (intro _ _ h; cases h; done), ?_⟩; conv => whnf))
      intro _ _
      conv => whnf
      refine ⟨⟨candN n, [], m, (lastN (candN n).log).1, (lastN (candN n).log).2⟩, ⟨⟨hs1, hs2⟩, by show 0 < 900; omega, fun _ h => (by cases h)⟩, ?_⟩
      conv => whnf
      repeat (first | exact trivial | (refine ⟨by first | exact ⟨rfl, rfl, rfl⟩ | rfl | exact ⟨rfl, rfl⟩ | exact ⟨rfl, fun _ _ => rfl⟩ | exact fun _ _ h => h | (intro _ _ h; cases h; done), ?_⟩; conv => whnf))
      rintro os' ⟨hsince, hsaid⟩
      rw [hcl] at hsince
      have hlen3 := hsince.len
      have hsz : (candN n).size.toNat = n.size.toNat := rfl
      rw [hsz, List.length_nil] at hlen3
      conv => whnf
      cases hy : enoughB (candN n) with
      | true =>
        have hr : timeoutR n = ⟨winN (candN n), asksOf n ++ feedAllK (winN (candN n)), 0⟩ := by rw [hr]; unfold leadS; rw [if_pos hy]
        refine ⟨⟨candN n, os', m, true⟩, ⟨hcf.fit, by omega, by omega, lead_mono hcf, ⟨hcf.w1, by have : (candN n).votes < 2 ^ n.size.toNat := hwv; omega⟩, hsaid, by omega, hy⟩, ?_⟩
        conv => whnf
        repeat (first | exact trivial | (refine ⟨by first | exact ⟨rfl, rfl, rfl⟩ | rfl | exact ⟨rfl, rfl⟩ | exact ⟨rfl, fun _ _ => rfl⟩ | exact fun _ _ h => h | (intro _ _ h; cases h; done), ?_⟩; conv => whnf))
        rintro ⟨n', A2, c2, os2, m2⟩ ⟨hpost, hext⟩ m3 h3 h4
        obtain ⟨hn', hsince2, hsaid2, hc, hcp, how⟩ := hpost rfl
        have hs3 := hsince.trans hsince2
        conv => whnf
        refine Or.inr ⟨[2, 4], sc26_11, by kernel_rfl, ?_⟩
        conv => whnf
        repeat (first | exact trivial | (refine ⟨by first | exact ⟨rfl, rfl, rfl⟩ | rfl | exact ⟨rfl, rfl⟩ | exact ⟨rfl, fun _ _ => rfl⟩ | exact fun _ _ h => h | (intro _ _ h; cases h; done), ?_⟩; conv => whnf))
        intro A5 c5 m5 h5
        have hx := ext_trans h3 h5.ext
        refine ⟨⟨n', A2, c2, os2, A5, c5, m5⟩, ⟨hn'.trans (by rw [hr] <;> rfl), (since_nil hs3).trans (by rw [hr, hn'] <;> rfl), ⟨(hc.ext h4).ext h5.ext, hcp⟩, ⟨.of_sealed h5, h5.le⟩, (hsaid2.ext h4).ext h5.ext, hx, news_st ⟨how.1.ext h4, how.2⟩ h5 (hsaid2.ext h4) hs3.fresh h3⟩, ?_⟩
        conv => whnf
        repeat (first | exact trivial | exact fun _ _ h => h | (refine ⟨by first | exact ⟨rfl, rfl, rfl⟩ | rfl | exact ⟨rfl, rfl⟩ | exact ⟨rfl, fun _ _ => rfl⟩ | exact fun _ _ h => h | (intro _ _ h; cases h; done) | (rw [hr] <;> rfl), ?_⟩; conv => whnf))
        exact ⟨hx, fun _ _ h => h⟩
      | false =>
        have hr : timeoutR n = ⟨candN n, asksOf n, 0⟩ := by rw [hr]; unfold leadS; rw [if_neg (by rw [hy]; decide)]; simp
        refine ⟨⟨candN n, os', m, false⟩, ⟨hcf.fit, by omega, by omega, lead_mono hcf, ⟨hcf.w1, by have : (candN n).votes < 2 ^ n.size.toNat := hwv; omega⟩, hsaid, by omega, hy⟩, ?_⟩
        conv => whnf
        repeat (first | exact trivial | (refine ⟨by first | exact ⟨rfl, rfl, rfl⟩ | rfl | exact ⟨rfl, rfl⟩ | exact ⟨rfl, fun _ _ => rfl⟩ | exact fun _ _ h => h | (intro _ _ h; cases h; done), ?_⟩; conv => whnf))
        rintro ⟨n', A2, c2, os2, m2⟩ ⟨_, hext⟩ m3 h3 h4
        conv => whnf
        refine Or.inr ⟨[2, 4], sc26_11, by kernel_rfl, ?_⟩
        conv => whnf
        repeat (first | exact trivial | (refine ⟨by first | exact ⟨rfl, rfl, rfl⟩ | rfl | exact ⟨rfl, rfl⟩ | exact ⟨rfl, fun _ _ => rfl⟩ | exact fun _ _ h => h | (intro _ _ h; cases h; done), ?_⟩; conv => whnf))
        intro A1 c1 m1 h1
        conv => whnf
        intro A6 c6 m6 h6
        have hx := ext_trans h3 (ext_trans h1.ext h6.ext)
        refine ⟨⟨candN n, A1, c1, os', A6, c6, m6⟩, ⟨by rw [hr], (since_nil hsince).trans (by rw [hr] <;> rfl), ⟨(Cells.of_sealed h1).ext h6.ext, h1.le⟩, ⟨.of_sealed h6, h6.le⟩, ((hsaid.ext h3).ext h1.ext).ext h6.ext, hx, news_two h1 (Nat.le_refl _) h6 (hsaid.ext h3) hsince.fresh h3⟩, ?_⟩
        conv => whnf
        repeat (first | exact trivial | exact fun _ _ h => h | (refine ⟨by first | exact ⟨rfl, rfl, rfl⟩ | rfl | exact ⟨rfl, rfl⟩ | exact ⟨rfl, fun _ _ => rfl⟩ | exact fun _ _ h => h | (intro _ _ h; cases h; done) | (rw [hr] <;> rfl), ?_⟩; conv => whnf))
        exact ⟨hx, fun _ _ h => h⟩
end Go.Proofs.Ytjpjiniclibgkaa.Sx

namespace Go.Proofs.Ytjpjiniclibgkaa.Sx
open Go

def S23 : List (Nat × Spec) := (26, turnSpec timeoutR) :: S22
theorem S23_all : ∀ f s, findS S23 f = some s → SpecOk Try.prog f s := CP_cons S22_all timeout_ok
theorem S23_ok : CPOk Try.prog (CPs S23) := CPs_ok S23_all
set_option maxRecDepth 100000 in
set_option maxHeartbeats 1600000 in
theorem refTimeout_ok : SpecOk Try.prog 28 (turnSpec timeoutR) := by
  refine spec_of_exec (fn := Try.f28) (c := Try.f28.body.getD .skip) (d := 1) (lv := ([0, 1, 2, 3, 4, 5, 6, 7, 8, 11, 23, 62, 68])) (DP := DPx T1 (CPs S23) ([0, 1, 2, 3, 4, 5, 6, 7, 8, 11, 23, 62, 68])) T1_ok S23_ok (fun B => DPx_ok T1_ok ord S23_ok B) (turnSpec timeoutR) (by rfl) (by rfl) (by rfl) (fun _ => Nat.le_of_ble_eq_true (by kernel_rfl)) ?_
  rintro ⟨n, A, c, m⟩ ⟨hM, hcap, hl⟩
  conv => whnf
  refine ⟨⟨n, A, c, m⟩, ⟨hM, hl⟩, ?_⟩
  conv => whnf
  repeat (first | exact trivial | (refine ⟨by first | exact ⟨rfl, rfl, rfl⟩ | rfl | exact ⟨rfl, rfl⟩ | exact ⟨rfl, fun _ _ => rfl⟩ | exact fun _ _ h => h | (intro _ _ h; cases h; done), ?_⟩; conv => whnf))
  intro _ _
  conv => whnf
  refine ⟨fun hg => ?_, fun hg => ?_⟩
  · have hg : goodB n = false := by simpa using hg
    have hr : timeoutR n = ⟨zeroN, [], 1⟩ := by unfold timeoutR; rw [if_neg (by rw [hg]; decide)]
    conv => whnf
    refine ⟨⟨zeroN, none, 0, [], none, 0, m⟩, ⟨by rw [hr], by rw [hr] <;> rfl, ⟨Cells.nil _ _, Nat.le_refl _⟩, ⟨Cells.nil _ _, Nat.le_refl _⟩, fun _ h => (by cases h), fun _ _ h => h, news_err⟩, ?_⟩
    conv => whnf
    repeat (first | exact trivial | exact fun _ _ h => h | (refine ⟨by first | exact ⟨rfl, rfl, rfl⟩ | rfl | exact ⟨rfl, rfl⟩ | exact ⟨rfl, fun _ _ => rfl⟩ | exact fun _ _ h => h | (intro _ _ h; cases h; done) | (rw [hr] <;> rfl), ?_⟩; conv => whnf))
  · have hg : goodB n = true := by simpa using hg
    have hfine := fine_iff.1 hg
    have hlen := hfine.l
    conv => whnf
    refine ⟨⟨n, A, c, m⟩, ⟨hM, by show n.log.items.length ≤ 2 ^ 40; omega⟩, ?_⟩
    conv => whnf
    repeat (first | exact trivial | (refine ⟨by first | exact ⟨rfl, rfl, rfl⟩ | rfl | exact ⟨rfl, rfl⟩ | exact ⟨rfl, fun _ _ => rfl⟩ | exact fun _ _ h => h | (intro _ _ h; cases h; done), ?_⟩; conv => whnf))
    intro _ _
    conv => whnf
    refine ⟨fun h => ?_, fun h => ?_⟩
    · have h : n.role = 2 ∨ n.log.term ≥ 1099511627776 := by rw [ifor] at h; simpa using h
      have hr : timeoutR n = ⟨n, [], 0⟩ := by unfold timeoutR; rw [if_pos hg, if_pos h]
      conv => whnf
      intro A1 c1 m1 h1
      refine ⟨⟨n, A1, c1, [], none, 0, m1⟩, ⟨by rw [hr], by rw [hr] <;> rfl, ⟨.of_sealed h1, h1.le⟩, ⟨Cells.nil _ _, Nat.le_refl _⟩, fun _ h => (by cases h), h1.ext, news_one h1⟩, ?_⟩
      conv => whnf
      repeat (first | exact trivial | exact fun _ _ h => h | (refine ⟨by first | exact ⟨rfl, rfl, rfl⟩ | rfl | exact ⟨rfl, rfl⟩ | exact ⟨rfl, fun _ _ => rfl⟩ | exact fun _ _ h => h | (intro _ _ h; cases h; done) | (rw [hr] <;> rfl), ?_⟩; conv => whnf))
      exact ⟨h1.ext, fun _ _ h => h⟩
    · have h : ¬ (n.role = 2 ∨ n.log.term ≥ 1099511627776) := by rw [ifor] at h; simpa using h
      have hr : timeoutR n = ⟨(leadS (candN n)).n, asksOf n ++ (leadS (candN n)).ks, 0⟩ := by unfold timeoutR; rw [if_pos hg, if_neg h]
      have ht : n.log.term < 1099511627776 := by omega
      have hcf := cand_fine hfine ht
      have ht1 := hfine.t1
      have hw1 : IntKind.i64.wrap (n.log.term + 1) = n.log.term + 1 := wrapi ⟨by omega, by omega⟩
      have hm1 := hfine.m1
      have hcl := cand_last (n := n)
      have hcs : (candN n).size = n.size := rfl
      have hlen2 := asks_len (candN n) (lastN n.log).1 (lastN n.log).2 n.size.toNat
      have hs1 := hfine.s1
      have hs2 := hfine.s2
      have hlc := hcf.l
      have hcc := hcf.c2
      have hwv := hcf.w2
      have hpw := pow_le7 ⟨hs1, hs2⟩
      have hlI : lastI (candN n) = (candN n).log.base + (candN n).log.items.length := rfl
      conv => whnf
      refine ⟨⟨n, .own, [], m, n.log.term + 1, -1⟩, trivial, ?_⟩
      conv => whnf
      repeat (first | exact trivial | (refine ⟨by first | exact ⟨rfl, rfl, rfl⟩ | rfl | exact ⟨rfl, rfl⟩ | exact ⟨rfl, fun _ _ => rfl⟩ | exact fun _ _ h => h | (intro _ _ h; cases h; done) | exact hw1, ?_⟩; conv => whnf))
      rintro b rfl
      have hwu : IntKind.u64.wrap n.me = n.me := by rw [wrapu]; have := hfine.m2; omega
      conv => whnf
      conv in (occs := *) (IntKind.wrap IntKind.u64 _) => all_goals rw [hwu]
      refine ⟨hm1, ?_⟩
      conv => whnf
      refine ⟨⟨n.log, A, c, m⟩, ⟨hM, hl⟩, ?_⟩
      conv => whnf
      repeat (first | exact trivial | (refine ⟨by first | exact ⟨rfl, rfl, rfl⟩ | rfl | exact ⟨rfl, rfl⟩ | exact ⟨rfl, fun _ _ => rfl⟩ | exact fun _ _ h => h | (intro _ _ h; cases h; done), ?_⟩; conv => whnf))
      intro _ _
      conv => whnf
      refine ⟨AskL, fun ⟨i, os'⟩ => (i : Int) ≤ n.size ∧ Since m [] os' (asksK (candN n) (lastN n.log).1 (lastN n.log).2 i) ∧ Said m os', fun ⟨i, os'⟩ => ⟨85, [⟨1, [], .p 0 0⟩, ⟨2, [], .p 1 0⟩, ⟨5, [], .p 2 0⟩, ⟨6, [], .i .i64 (lastN n.log).1⟩, ⟨7, [], .i .i64 (lastN n.log).2⟩, ⟨8, [], .i .i64 i⟩], [], (0, .st 27 (nodeC n (.sl A n.log.items.length c))) :: (1, .st 27 (nodeC zeroN (.sl none 0 0))) :: (2, .st 85 (turnC (candN n) (.rw 3 (candN n).log.items.length) (.rw 4 os'.length))) :: (4, .row 29 10 os'.length (saidV os')) :: (3, .row 44 6 (candN n).log.items.length (itemsV (candN n).log.items)) :: [], 5⟩, fun _ => m, fun ⟨i, _⟩ => n.size.toNat - i, ⟨⟨0, []⟩, rfl, ⟨by show (0 : Int) ≤ _; omega, Since.refl [], fun _ h => (by cases h)⟩, ?_⟩, ?_⟩
      conv => whnf
      · conv => whnf
        repeat (first | exact trivial | (refine ⟨by first | exact ⟨rfl, rfl, rfl⟩ | rfl | exact ⟨rfl, rfl⟩ | exact ⟨rfl, fun _ _ => rfl⟩ | exact fun _ _ h => h | (intro _ _ h; cases h; done), ?_⟩; conv => whnf))
      rintro ⟨i, os'⟩ ⟨hi, hsince, hsaid⟩
      refine ⟨fun hlt => ?_, fun hge => ?_⟩
      conv => whnf
      · have hlt : (i : Int) < n.size := of_decide_eq_true hlt
        have hlen := hsince.len
        have hol := asks_len (candN n) (lastN n.log).1 (lastN n.log).2 i
        refine ⟨fun hne => ?_, fun heq => ?_⟩
        · conv => whnf
          refine ⟨⟨candN n, .own, os', m, (i : Int), askM (lastN n.log).1 (lastN n.log).2, none, 0⟩, ⟨by show os'.length < 1000; rw [hlen, List.length_nil]; omega, Cells.nil _ _⟩, ?_⟩
          conv => whnf
          repeat (first | exact trivial | (refine ⟨by first | exact ⟨rfl, rfl, rfl⟩ | rfl | exact ⟨rfl, rfl⟩ | exact ⟨rfl, fun _ _ => rfl⟩ | exact fun _ _ h => h | (intro _ _ h; cases h; done), ?_⟩; conv => whnf))
          rintro b rfl
          refine ⟨⟨i + 1, os' ++ [⟨sayN (candN n) (i : Int) (askM (lastN n.log).1 (lastN n.log).2), none, 0⟩]⟩, rfl, ⟨⟨by show ((i + 1 : Nat) : Int) ≤ n.size; omega, by rw [asks_yes (n := candN n) hne]; exact hsince.snoc rfl, hsaid.snoc (Cells.nil _ _)⟩, by show n.size.toNat - (i + 1) < n.size.toNat - i; omega⟩, ?_⟩
          conv => whnf
          repeat (first | exact trivial | (refine ⟨by first | exact ⟨rfl, rfl, rfl⟩ | rfl | exact ⟨rfl, rfl⟩ | exact ⟨rfl, fun _ _ => rfl⟩ | exact fun _ _ h => h | (intro _ _ h; cases h; done) | exact wrapi_succ (by omega), ?_⟩; conv => whnf))
        · conv => whnf
          refine ⟨⟨i + 1, os'⟩, rfl, ⟨⟨by show ((i + 1 : Nat) : Int) ≤ n.size; omega, by rw [asks_no (n := candN n) heq]; exact hsince, hsaid⟩, by show n.size.toNat - (i + 1) < n.size.toNat - i; omega⟩, ?_⟩
          conv => whnf
          repeat (first | exact trivial | (refine ⟨by first | exact ⟨rfl, rfl, rfl⟩ | rfl | exact ⟨rfl, rfl⟩ | exact ⟨rfl, fun _ _ => rfl⟩ | exact fun _ _ h => h | (intro _ _ h; cases h; done) | exact wrapi_succ (by omega), ?_⟩; conv => whnf))
      have hge : ¬ (i : Int) < n.size := of_decide_eq_false hge
      have hin : i = n.size.toNat := by omega
      rw [hin] at hsince
      have hlen3 := hsince.len
      rw [List.length_nil] at hlen3
      conv => whnf
      cases hy : enoughB (candN n) with
      | true =>
        have hr : timeoutR n = ⟨winN (candN n), asksOf n ++ feedAllK (winN (candN n)), 0⟩ := by rw [hr]; unfold leadS; rw [if_pos hy]
        refine ⟨⟨candN n, os', m, true⟩, ⟨hcf.fit, by omega, by omega, lead_mono hcf, ⟨hcf.w1, by have : (candN n).votes < 2 ^ n.size.toNat := hwv; omega⟩, hsaid, by omega, hy⟩, ?_⟩
        conv => whnf
        repeat (first | exact trivial | (refine ⟨by first | exact ⟨rfl, rfl, rfl⟩ | rfl | exact ⟨rfl, rfl⟩ | exact ⟨rfl, fun _ _ => rfl⟩ | exact fun _ _ h => h | (intro _ _ h; cases h; done), ?_⟩; conv => whnf))
        rintro ⟨n', A2, c2, os2, m2⟩ ⟨hpost, hext⟩ m3 h3 h4
        obtain ⟨hn', hsince2, hsaid2, hc, hcp, how⟩ := hpost rfl
        have hs3 := hsince.trans hsince2
        conv => whnf
        refine Or.inr ⟨[2], sc28_17, by kernel_rfl, ?_⟩
        conv => whnf
        repeat (first | exact trivial | (refine ⟨by first | exact ⟨rfl, rfl, rfl⟩ | rfl | exact ⟨rfl, rfl⟩ | exact ⟨rfl, fun _ _ => rfl⟩ | exact fun _ _ h => h | (intro _ _ h; cases h; done), ?_⟩; conv => whnf))
        intro A5 c5 m5 h5
        have hx := ext_trans h3 h5.ext
        refine ⟨⟨n', A2, c2, os2, A5, c5, m5⟩, ⟨hn'.trans (by rw [hr] <;> rfl), (since_nil hs3).trans (by rw [hr, hn'] <;> rfl), ⟨(hc.ext h4).ext h5.ext, hcp⟩, ⟨.of_sealed h5, h5.le⟩, (hsaid2.ext h4).ext h5.ext, hx, news_st ⟨how.1.ext h4, how.2⟩ h5 (hsaid2.ext h4) hs3.fresh h3⟩, ?_⟩
        conv => whnf
        repeat (first | exact trivial | exact fun _ _ h => h | (refine ⟨by first | exact ⟨rfl, rfl, rfl⟩ | rfl | exact ⟨rfl, rfl⟩ | exact ⟨rfl, fun _ _ => rfl⟩ | exact fun _ _ h => h | (intro _ _ h; cases h; done) | (rw [hr] <;> rfl), ?_⟩; conv => whnf))
        exact ⟨hx, fun _ _ h => h⟩
      | false =>
        have hr : timeoutR n = ⟨candN n, asksOf n, 0⟩ := by rw [hr]; unfold leadS; rw [if_neg (by rw [hy]; decide)]; simp
        refine ⟨⟨candN n, os', m, false⟩, ⟨hcf.fit, by omega, by omega, lead_mono hcf, ⟨hcf.w1, by have : (candN n).votes < 2 ^ n.size.toNat := hwv; omega⟩, hsaid, by omega, hy⟩, ?_⟩
        conv => whnf
        repeat (first | exact trivial | (refine ⟨by first | exact ⟨rfl, rfl, rfl⟩ | rfl | exact ⟨rfl, rfl⟩ | exact ⟨rfl, fun _ _ => rfl⟩ | exact fun _ _ h => h | (intro _ _ h; cases h; done), ?_⟩; conv => whnf))
        rintro ⟨n', A2, c2, os2, m2⟩ ⟨_, hext⟩ m3 h3 h4
        conv => whnf
        refine Or.inr ⟨[2], sc28_17, by kernel_rfl, ?_⟩
        conv => whnf
        repeat (first | exact trivial | (refine ⟨by first | exact ⟨rfl, rfl, rfl⟩ | rfl | exact ⟨rfl, rfl⟩ | exact ⟨rfl, fun _ _ => rfl⟩ | exact fun _ _ h => h | (intro _ _ h; cases h; done), ?_⟩; conv => whnf))
        intro A1 c1 m1 h1
        conv => whnf
        intro A6 c6 m6 h6
        have hx := ext_trans h3 (ext_trans h1.ext h6.ext)
        refine ⟨⟨candN n, A1, c1, os', A6, c6, m6⟩, ⟨by rw [hr], (since_nil hsince).trans (by rw [hr] <;> rfl), ⟨(Cells.of_sealed h1).ext h6.ext, h1.le⟩, ⟨.of_sealed h6, h6.le⟩, ((hsaid.ext h3).ext h1.ext).ext h6.ext, hx, news_two h1 (Nat.le_refl _) h6 (hsaid.ext h3) hsince.fresh h3⟩, ?_⟩
        conv => whnf
        repeat (first | exact trivial | exact fun _ _ h => h | (refine ⟨by first | exact ⟨rfl, rfl, rfl⟩ | rfl | exact ⟨rfl, rfl⟩ | exact ⟨rfl, fun _ _ => rfl⟩ | exact fun _ _ h => h | (intro _ _ h; cases h; done) | (rw [hr] <;> rfl), ?_⟩; conv => whnf))
        exact ⟨hx, fun _ _ h => h⟩

end Go.Proofs.Ytjpjiniclibgkaa.Sx

namespace Go.Proofs.Ytjpjiniclibgkaa.Sx
open Go

def S24 : List (Nat × Spec) := (28, turnSpec timeoutR) :: S23
theorem S24_all : ∀ f s, findS S24 f = some s → SpecOk Try.prog f s := CP_cons S23_all refTimeout_ok
theorem S24_ok : CPOk Try.prog (CPs S24) := CPs_ok S24_all
def heavySpec : Spec where
  A := StepG
  R := fun ⟨n, A, _, k, D, _, m⟩ => (Cells m A (itemsV n.log.items) ∧ n.log.items.length < 2 ^ 62) ∧ (Cells m D (itemsV k.items) ∧ k.items.length < 2 ^ 62)
  J := fun ⟨_, _, _, _, _, _, m⟩ => m
  args := fun ⟨n, A, c, k, D, e, _⟩ => [.g (nodeC n (.sl A n.log.items.length c)), .g (msgC k (.sl D k.items.length e))]
  h := fun _ => []
  nx := 0
  Bb := Bool
  C := fun ⟨n, _, _, k, _, _, _⟩ b => b = false → n.log.items.length ≤ 300 ∧ k.items.length ≤ 300
  out := fun _ b => .ret (.b b)
  h2 := fun _ _ => []
  nx2 := 0
  md := 1
structure HvG where
  j : Nat
  s : Int
structure HwG where
  i : Nat
  s : Int
set_option maxRecDepth 100000 in
set_option maxHeartbeats 1600000 in
theorem heavy_ok : SpecOk Try.prog 11 heavySpec := by
  refine spec_of_exec (fn := Try.f11) (c := Try.f11.body.getD .skip) (d := 2) (lv := ([0, 1, 2, 3, 4, 5, 7, 9, 23, 24, 25, 26, 31, 32, 33, 34, 35, 45])) (DP := DPx T1 (CPs S24) ([0, 1, 2, 3, 4, 5, 7, 9, 23, 24, 25, 26, 31, 32, 33, 34, 35, 45])) T1_ok S24_ok (fun B => DPx_ok T1_ok ord S24_ok B) heavySpec (by rfl) (by rfl) (by rfl) (fun _ => Nat.le_of_ble_eq_true (by kernel_rfl)) ?_
  rintro ⟨n, A, c, k, D, e, m⟩ ⟨⟨hM, hl⟩, ⟨hD, hkl⟩⟩
  obtain ⟨rows, hrows⟩ : ∃ rows : List Value, rows = [.slice A n.log.items.length c, .slice D k.items.length e] := ⟨_, rfl⟩
  conv => whnf
  refine ⟨HvG, fun ⟨j, _⟩ => j ≤ 2 ∧ (1 ≤ j → n.log.items.length ≤ 300) ∧ (2 ≤ j → k.items.length ≤ 300), fun ⟨j, s⟩ => ⟨50, [⟨5, [], .i .i64 s⟩, ⟨23, [], .rw 0 2⟩, ⟨24, [], .i .i64 2⟩, ⟨25, [], .i .i64 j⟩], [], [(0, .row 22 1 2 rows)], 1⟩, fun _ => m, fun ⟨j, _⟩ => 2 - j, ⟨⟨0, IntKind.i64.wrap ((n.log.book.size : Int) + (k.book.size : Int))⟩, rfl, ⟨by decide, fun h => absurd h (by decide), fun h => absurd h (by decide)⟩, ?_⟩, ?_⟩
  conv => whnf
  · conv => whnf
    repeat (first | exact trivial | (refine ⟨by first | exact ⟨rfl, rfl, rfl⟩ | rfl | exact ⟨rfl, rfl⟩ | exact ⟨rfl, fun _ _ => rfl⟩ | exact fun _ _ h => h | (intro _ _ h; cases h; done) | exact ⟨rfl, hrows.symm⟩, ?_⟩; conv => whnf))
  · rintro ⟨j, s⟩ ⟨hj, h1, h2⟩
    refine ⟨fun hlt => ?_, fun hge => ?_⟩
    conv => whnf
    · have hlt : j < 2 := by have h2 : (j : Int) < 2 := of_decide_eq_true hlt; omega
      have hE : ∃ (xs : List Item) (B : Option Addr) (d : Nat), Cells m B (itemsV xs) ∧ xs.length < 2 ^ 62 ∧ [Value.slice B xs.length d] = (rows.drop (j * 1)).take 1 ∧ (xs.length ≤ 300 → (1 ≤ j + 1 → n.log.items.length ≤ 300) ∧ (2 ≤ j + 1 → k.items.length ≤ 300)) := by
        have : j = 0 ∨ j = 1 := by omega
        rcases this with rfl | rfl
        · exact ⟨n.log.items, A, c, hM, hl, by rw [hrows]; rfl, fun h => ⟨fun _ => h, fun h => absurd h (by decide)⟩⟩
        · exact ⟨k.items, D, e, hD, hkl, by rw [hrows]; rfl, fun h => ⟨fun _ => h1 (by decide), fun _ => h⟩⟩
      obtain ⟨xs, B, d, hX, hxl, hrow, hst⟩ := hE
      have hrl : rows.length = 2 := by rw [hrows]; rfl
      obtain ⟨t, ht⟩ : ∃ t, t = xs.length := ⟨_, rfl⟩
      rw [← ht] at hrow
      conv => whnf
      refine ⟨⟨Int.natCast_nonneg _, by show (j : Int) < 2; omega, Nat.le_refl _⟩, ?_⟩
      conv => whnf
      refine ⟨.sl B t d, ⟨rfl, rfl, rfl, by rw [hrl]; show j * 1 + 1 ≤ 2; omega, hrow⟩, ?_⟩
      conv => whnf
      refine ⟨fun hbig => ?_, fun hsm => ?_⟩
      · refine ⟨true, fun h => (by cases h), ?_⟩
        conv => whnf
        repeat (first | exact trivial | exact fun _ _ h => h | (refine ⟨by first | exact ⟨rfl, rfl, rfl⟩ | rfl | exact ⟨rfl, rfl⟩ | exact ⟨rfl, fun _ _ => rfl⟩ | exact fun _ _ h => h | (intro _ _ h; cases h; done), ?_⟩; conv => whnf))
      · have hsm : ¬ (t : Int) > 300 := of_decide_eq_false hsm
        have hst := hst (by omega)
        conv => whnf
        refine ⟨HwG, fun ⟨i, _⟩ => i ≤ t, fun ⟨i, s⟩ => ⟨50, [⟨5, [], .i .i64 s⟩, ⟨23, [], .rw 0 2⟩, ⟨24, [], .i .i64 2⟩, ⟨25, [], .i .i64 j⟩, ⟨32, [], .sl B t d⟩, ⟨33, [], .i .i64 t⟩, ⟨34, [], .i .i64 i⟩], [], [(0, .row 22 1 2 rows)], 1⟩, fun _ => m, fun ⟨i, _⟩ => t - i, ⟨⟨0, s⟩, rfl, Nat.zero_le _, ?_⟩, ?_⟩
        conv => whnf
        · conv => whnf
          repeat (first | exact trivial | (refine ⟨by first | exact ⟨rfl, rfl, rfl⟩ | rfl | exact ⟨rfl, rfl⟩ | exact ⟨rfl, fun _ _ => rfl⟩ | exact fun _ _ h => h | (intro _ _ h; cases h; done), ?_⟩; conv => whnf))
        · rintro ⟨i, s2⟩ hi
          refine ⟨fun hlt3 => ?_, fun hge3 => ?_⟩
          conv => whnf
          · have hlt3 : i < t := by have h2 : (i : Int) < (t : Int) := of_decide_eq_true hlt3; omega
            have hE2 : i < xs.length := Nat.lt_of_lt_of_eq hlt3 ht
            have hE := getIx (xs := xs) hE2
            refine Exists.elim hE fun x hx => ?_
            refine ⟨⟨Int.natCast_nonneg _, by show (i : Int) < (t : Int); omega, hX.someX hx⟩, ?_⟩
            conv => whnf
            refine ⟨.g (itemC x), ⟨rfl, rfl, mem_item hX hx⟩, ?_⟩
            conv => whnf
            refine ⟨fun hbig => ?_, fun hsm => ?_⟩
            · refine ⟨true, fun h => (by cases h), ?_⟩
              conv => whnf
              repeat (first | exact trivial | exact fun _ _ h => h | (refine ⟨by first | exact ⟨rfl, rfl, rfl⟩ | rfl | exact ⟨rfl, rfl⟩ | exact ⟨rfl, fun _ _ => rfl⟩ | exact fun _ _ h => h | (intro _ _ h; cases h; done), ?_⟩; conv => whnf))
            · refine ⟨⟨i + 1, IntKind.i64.wrap (s2 + (x.e.data.size : Int))⟩, rfl, ⟨hlt3, by show t - (i + 1) < t - i; omega⟩, ?_⟩
              conv => whnf
              repeat (first | exact trivial | (refine ⟨by first | exact ⟨rfl, rfl, rfl⟩ | rfl | exact ⟨rfl, rfl⟩ | exact ⟨rfl, fun _ _ => rfl⟩ | exact fun _ _ h => h | (intro _ _ h; cases h; done) | exact wrapi_succ (by omega), ?_⟩; conv => whnf))
          · conv => whnf
            refine ⟨⟨j + 1, s2⟩, rfl, ⟨⟨hlt, hst⟩, by show 2 - (j + 1) < 2 - j; omega⟩, ?_⟩
            conv => whnf
            repeat (first | exact trivial | (refine ⟨by first | exact ⟨rfl, rfl, rfl⟩ | rfl | exact ⟨rfl, rfl⟩ | exact ⟨rfl, fun _ _ => rfl⟩ | exact fun _ _ h => h | (intro _ _ h; cases h; done) | exact wrapi_succ (by omega), ?_⟩; conv => whnf))
    · have hge : ¬ j < 2 := by have h2 : ¬ (j : Int) < 2 := of_decide_eq_false hge; omega
      refine ⟨decide (s > 65536), fun _ => ⟨h1 (by omega), h2 (by omega)⟩, ?_⟩
      conv => whnf
      repeat (first | exact trivial | exact fun _ _ h => h | (refine ⟨by first | exact ⟨rfl, rfl, rfl⟩ | rfl | exact ⟨rfl, rfl⟩ | exact ⟨rfl, fun _ _ => rfl⟩ | exact fun _ _ h => h | (intro _ _ h; cases h; done), ?_⟩; conv => whnf))
end Go.Proofs.Ytjpjiniclibgkaa.Sx

namespace Go.Proofs.Ytjpjiniclibgkaa.Sx
open Go

def S25 : List (Nat × Spec) := (11, heavySpec) :: S24
theorem S25_all : ∀ f s, findS S25 f = some s → SpecOk Try.prog f s := CP_cons S24_all heavy_ok
theorem S25_ok : CPOk Try.prog (CPs S25) := CPs_ok S25_all
def zeroM : Msg := mkM 0 0 0 0 false [] ByteArray.empty
def wA : StepR := newR 0 3 emptyL
def wB : StepR := newR 1 3 emptyL
def wC : StepR := timeoutR wA.n
def wD : StepR := stepR wB.n (wC.ks.headD zeroM)
def wE : StepR := stepR wC.n (wD.ks.headD zeroM)
def wF : StepR := stepR wD.n (wE.ks.headD zeroM)
def wG : StepR := stepR wE.n (wF.ks.headD zeroM)
theorem wA_e : wA.e = 0 := by kernel_rfl
theorem wB_e : wB.e = 0 := by kernel_rfl
theorem wC_e : wC.e = 0 := by kernel_rfl
theorem wC_l : wC.ks.length = 2 := by kernel_rfl
theorem wC_k : (wC.ks.headD zeroM).kind = 1 := by kernel_rfl
theorem wC_t : (wC.ks.headD zeroM).to = 1 := by kernel_rfl
theorem wD_e : wD.e = 0 := by kernel_rfl
theorem wD_l : wD.ks.length = 1 := by kernel_rfl
theorem wD_y : (wD.ks.headD zeroM).yes = true := by kernel_rfl
theorem wE_e : wE.e = 0 := by kernel_rfl
theorem wE_l : wE.ks.length = 2 := by kernel_rfl
theorem wE_r : wE.n.role = 2 := by kernel_rfl
theorem wE_i : wE.n.log.items.length = 1 := by kernel_rfl
theorem wF_e : wF.e = 0 := by kernel_rfl
theorem wF_l : wF.ks.length = 1 := by kernel_rfl
theorem wG_e : wG.e = 0 := by kernel_rfl
theorem wG_c : wG.n.commit = 1 := by kernel_rfl
theorem wC_z : (wC.ks.headD zeroM).items.length = 0 := by kernel_rfl
theorem wD_z : (wD.ks.headD zeroM).items.length = 0 := by kernel_rfl
theorem wE_z : (wE.ks.headD zeroM).items.length = 1 := by kernel_rfl
theorem wF_z : (wF.ks.headD zeroM).items.length = 0 := by kernel_rfl
theorem wC_i : wC.n.log.items.length = 0 := by kernel_rfl
theorem wD_i : wD.n.log.items.length = 0 := by kernel_rfl
theorem wA_i : wA.n.log.items = [] := by kernel_rfl
theorem wB_i : wB.n.log.items = [] := by kernel_rfl
theorem head_of {os : List OMsg} {ks : List Msg} {l : Nat} (h : os.map (·.k) = ks) (hl : ks.length = l + 1) : ∃ o, os[0]? = some o ∧ o.k = ks.headD zeroM := by
  cases os with
  | nil => rw [← h] at hl; cases hl
  | cons o r => exact ⟨o, rfl, by rw [← h]; rfl⟩
theorem wake_vals : ∃ a b c d e f g : StepR, (newR 0 3 emptyL = a ∧ newR 1 3 emptyL = b ∧ timeoutR a.n = c ∧ stepR b.n (c.ks.headD zeroM) = d ∧ stepR c.n (d.ks.headD zeroM) = e ∧ stepR d.n (e.ks.headD zeroM) = f ∧ stepR e.n (f.ks.headD zeroM) = g) ∧
    (a.e = 0 ∧ b.e = 0 ∧ c.e = 0 ∧ d.e = 0 ∧ e.e = 0 ∧ f.e = 0 ∧ g.e = 0) ∧ (c.ks.length = 1 + 1 ∧ d.ks.length = 0 + 1 ∧ e.ks.length = 1 + 1 ∧ f.ks.length = 0 + 1) ∧
    ((c.ks.headD zeroM).kind = 1 ∧ (c.ks.headD zeroM).to = 1 ∧ (d.ks.headD zeroM).yes = true ∧ e.n.role = 2 ∧ e.n.log.items.length = 1 ∧ g.n.commit = 1) ∧
    ((c.ks.headD zeroM).items.length = 0 ∧ (d.ks.headD zeroM).items.length = 0 ∧ (e.ks.headD zeroM).items.length = 1 ∧ (f.ks.headD zeroM).items.length = 0) ∧
    (a.n.log.items = [] ∧ b.n.log.items = [] ∧ c.n.log.items.length = 0 ∧ d.n.log.items.length = 0) :=
  ⟨wA, wB, wC, wD, wE, wF, wG, ⟨rfl, rfl, rfl, rfl, rfl, rfl, rfl⟩, ⟨wA_e, wB_e, wC_e, wD_e, wE_e, wF_e, wG_e⟩, ⟨wC_l, wD_l, wE_l, wF_l⟩, ⟨wC_k, wC_t, wD_y, wE_r, wE_i, wG_c⟩, ⟨wC_z, wD_z, wE_z, wF_z⟩, wA_i, wB_i, wC_i, wD_i⟩
def wakesSpec : Spec where
  A := Mem
  R := fun _ => True
  J := fun m => m
  args := fun _ => []
  h := fun _ => []
  nx := 0
  Bb := Unit
  C := fun _ _ => True
  out := fun _ _ => .ret (.b true)
  h2 := fun _ _ => []
  nx2 := 0
theorem said_field {os : List OMsg} {i : Nat} {o : OMsg} (h : os[i]? = some o) (f k : Nat) (hf : f + k ≤ 10) : ((saidV os).drop (i * 10 + f)).take k = ((msgV o).drop f).take k := by
  have hd : os.drop i = o :: os.drop (i + 1) := by
    rw [List.drop_eq_getElem_cons (List.getElem?_eq_some_iff.1 h).1, (List.getElem?_eq_some_iff.1 h).2]
  have hl : (msgV o).length = 10 := rfl
  rw [← List.drop_drop, said_drop, hd]
  show ((msgV o ++ saidV _).drop f).take k = _
  rw [List.drop_append_of_le_length (by rw [hl]; omega), List.take_append_of_le_length (by rw [List.length_drop, hl]; omega)]
theorem mem_kind {m : Mem} {A : Option Addr} {os : List OMsg} {i : Nat} {o : OMsg} (hM : Cells m A (saidV os)) (h : os[i]? = some o) : rdM m A (i * 10 + 2) 1 [.int .i64 o.k.kind] := hM.rd rfl rfl (by decide) (by rw [said_field h 2 1 (by omega)]; rfl)
theorem mem_to {m : Mem} {A : Option Addr} {os : List OMsg} {i : Nat} {o : OMsg} (hM : Cells m A (saidV os)) (h : os[i]? = some o) : rdM m A (i * 10 + 1) 1 [.int .i64 o.k.to] := hM.rd rfl rfl (by decide) (by rw [said_field h 1 1 (by omega)]; rfl)
theorem mem_yes {m : Mem} {A : Option Addr} {os : List OMsg} {i : Nat} {o : OMsg} (hM : Cells m A (saidV os)) (h : os[i]? = some o) : rdM m A (i * 10 + 7) 1 [.bool o.k.yes] := hM.rd rfl rfl (by decide) (by rw [said_field h 7 1 (by omega)]; rfl)
set_option maxRecDepth 100000 in
set_option maxHeartbeats 3200000 in
theorem wakes_ok : SpecOk Try.prog 10 wakesSpec := by
  refine spec_of_exec (fn := Try.f10) (c := Try.f10.body.getD .skip) (d := 0) (lv := ([0, 1, 2, 3, 4, 5, 21, 48, 71, 99, 115])) (DP := DPx T1 (CPs S25) ([0, 1, 2, 3, 4, 5, 21, 48, 71, 99, 115])) T1_ok S25_ok (fun B => DPx_ok T1_ok ord S25_ok B) wakesSpec (by rfl) (by rfl) (by rfl) (fun _ => Nat.le_of_ble_eq_true (by kernel_rfl)) ?_
  intro m0 _
  obtain ⟨wa, wb, wc, wd, we, wf, wg, ⟨vA, vB, vC, vD, vE, vF, vG⟩, ⟨eA, eB, eC, eD, eE, eF, eG⟩, ⟨lC, lD, lE, lF⟩, ⟨fC, fT, fD, fR, fI, fG⟩, ⟨zC, zD, zE, zF⟩, iA, iB, iC, iD⟩ := wake_vals
  refine ⟨m0, trivial, ?_⟩
  conv => whnf
  repeat (first | exact trivial | (refine ⟨by first | exact ⟨rfl, rfl, rfl⟩ | rfl | exact ⟨rfl, rfl⟩ | exact ⟨rfl, fun _ _ => rfl⟩ | exact fun _ _ h => h | (intro _ _ h; cases h; done), ?_⟩; conv => whnf))
  intro _ _
  conv => whnf
  refine ⟨⟨0, 3, emptyL, none, 0, m0⟩, ⟨Cells.nil _ _, by decide⟩, ?_⟩
  conv => whnf
  repeat (first | exact trivial | (refine ⟨by first | exact ⟨rfl, rfl, rfl⟩ | rfl | exact ⟨rfl, rfl⟩ | exact ⟨rfl, fun _ _ => rfl⟩ | exact fun _ _ h => h | (intro _ _ h; cases h; done), ?_⟩; conv => whnf))
  rintro ⟨na, Aa, ca, ma⟩ ⟨hna, ⟨hca, hla⟩, hexa⟩ m1 h01 ha1
  conv => whnf
  refine ⟨m1, trivial, ?_⟩
  conv => whnf
  repeat (first | exact trivial | (refine ⟨by first | exact ⟨rfl, rfl, rfl⟩ | rfl | exact ⟨rfl, rfl⟩ | exact ⟨rfl, fun _ _ => rfl⟩ | exact fun _ _ h => h | (intro _ _ h; cases h; done), ?_⟩; conv => whnf))
  intro _ _
  conv => whnf
  refine ⟨⟨1, 3, emptyL, none, 0, m1⟩, ⟨Cells.nil _ _, by decide⟩, ?_⟩
  conv => whnf
  repeat (first | exact trivial | (refine ⟨by first | exact ⟨rfl, rfl, rfl⟩ | rfl | exact ⟨rfl, rfl⟩ | exact ⟨rfl, fun _ _ => rfl⟩ | exact fun _ _ h => h | (intro _ _ h; cases h; done), ?_⟩; conv => whnf))
  rintro ⟨nb, Ab, cb, mb⟩ ⟨hnb, ⟨hcb, hlb⟩, hexb⟩ m2 h12 hb2
  have hna : na = wa.n := by rw [← vA]; exact hna
  have hnb : nb = wb.n := by rw [← vB]; exact hnb
  have heA : (newR 0 3 emptyL).e = 0 := by rw [vA]; exact eA
  have heB : (newR 1 3 emptyL).e = 0 := by rw [vB]; exact eB
  have hia : na.log.items = [] := by rw [hna]; exact iA
  have hib : nb.log.items = [] := by rw [hnb]; exact iB
  conv => whnf
  refine ⟨fun h => absurd h (by rw [heA, heB]; decide), fun _ => ?_⟩
  conv => whnf
  refine ⟨⟨na, Aa, ca, m2⟩, ⟨by rw [hia]; exact Cells.nil _ _, hla, by rw [hia]; decide⟩, ?_⟩
  conv => whnf
  repeat (first | exact trivial | (refine ⟨by first | exact ⟨rfl, rfl, rfl⟩ | rfl | exact ⟨rfl, rfl⟩ | exact ⟨rfl, fun _ _ => rfl⟩ | exact fun _ _ h => h | (intro _ _ h; cases h; done), ?_⟩; conv => whnf))
  rintro ⟨nc, Ac, cc, osc, Oc, occ, mc⟩ ⟨hnc, hkc, ⟨hcc, hlc⟩, ⟨hoc, hocc⟩, hsc, hxc⟩ m3 h23 hc3
  have hwc : timeoutR na = wc := by rw [hna]; exact vC
  have heC : (timeoutR na).e = 0 := by rw [hwc]; exact eC
  have hnc : nc = wc.n := by rw [← hwc]; exact hnc
  have hkc : osc.map (·.k) = wc.ks := by rw [← hwc]; exact hkc
  have hlen : osc.length = 2 := by have := congrArg List.length hkc; rw [List.length_map, lC] at this; exact this
  have hE := head_of hkc lC
  refine Exists.elim hE fun oc hE => And.elim (fun hoc0 hock => ?_) hE
  have hcm := hoc.ext hc3
  conv => whnf
  have hckind : oc.k.kind = 1 := by rw [hock]; exact fC
  have hcto : oc.k.to = 1 := by rw [hock]; exact fT
  refine ⟨fun _ => ⟨Int.le_refl _, by show (0 : Int) < (osc.length : Int); omega, hcm.someM hoc0⟩, ?_⟩
  conv => whnf
  refine ⟨fun _ => hcm.someM hoc0, ?_⟩
  conv => whnf
  refine ⟨.i .i64 oc.k.kind, ⟨rfl, rfl, fun _ => mem_kind hcm hoc0⟩, ?_⟩
  conv => whnf
  refine ⟨fun _ => ⟨Int.le_refl _, by show (0 : Int) < (osc.length : Int); omega, hcm.someM hoc0⟩, ?_⟩
  conv => whnf
  refine ⟨fun _ => hcm.someM hoc0, ?_⟩
  conv => whnf
  refine ⟨.i .i64 oc.k.to, ⟨rfl, rfl, fun _ => mem_to hcm hoc0⟩, ?_⟩
  conv => whnf
  refine ⟨fun h => absurd h (by simp [heC, hlen, hckind, hcto]), fun _ => ?_⟩
  conv => whnf
  refine Or.inr ⟨[], sc10_8, by kernel_rfl, ?_⟩
  conv => whnf
  have hscm := hsc.ext hc3
  have hcin : oc ∈ osc := List.mem_of_getElem? hoc0
  refine ⟨⟨Int.le_refl _, by show (0 : Int) < (osc.length : Int); omega, hcm.someM hoc0⟩, ?_⟩
  conv => whnf
  refine ⟨.g (msgC oc.k (.sl oc.A oc.k.items.length oc.c)), ⟨rfl, rfl, mem_msg hcm hoc0⟩, ?_⟩
  conv => whnf
  refine ⟨⟨nb, Ab, cb, oc.k, oc.A, oc.c, m3⟩, ⟨⟨by rw [hib]; exact Cells.nil _ _, hlb, by rw [hib]; decide⟩, ⟨(hscm oc hcin).1, (hscm oc hcin).2.1, by rw [hock, zC]; decide⟩⟩, ?_⟩
  conv => whnf
  repeat (first | exact trivial | (refine ⟨by first | exact ⟨rfl, rfl, rfl⟩ | rfl | exact ⟨rfl, rfl⟩ | exact ⟨rfl, fun _ _ => rfl⟩ | exact fun _ _ h => h | (intro _ _ h; cases h; done), ?_⟩; conv => whnf))
  rintro ⟨nd, Ad, cd, osd, Od, odc, md⟩ ⟨hnd, hkd, ⟨hcd, hld⟩, ⟨hod, hodc⟩, hsd, hxd⟩ m4 h34 hd4
  have hwd : stepR nb oc.k = wd := by rw [hnb, hock]; exact vD
  have heD : (stepR nb oc.k).e = 0 := by rw [hwd]; exact eD
  have hnd : nd = wd.n := by rw [← hwd]; exact hnd
  have hkd : osd.map (·.k) = wd.ks := by rw [← hwd]; exact hkd
  have hlend : osd.length = 1 := by have := congrArg List.length hkd; rw [List.length_map, lD] at this; exact this
  have hE := head_of hkd lD
  refine Exists.elim hE fun od hE => And.elim (fun hod0 hodk => ?_) hE
  have hdm := hod.ext hd4
  have hsdm := hsd.ext hd4
  have hdin : od ∈ osd := List.mem_of_getElem? hod0
  have hdyes : od.k.yes = true := by rw [hodk]; exact fD
  repeat (first | exact trivial | (refine ⟨by first | exact ⟨rfl, rfl, rfl⟩ | rfl | exact ⟨rfl, rfl⟩ | exact ⟨rfl, fun _ _ => rfl⟩ | exact fun _ _ h => h | (intro _ _ h; cases h; done), ?_⟩; conv => whnf))
  refine ⟨fun _ => ⟨Int.le_refl _, by show (0 : Int) < (osd.length : Int); omega, hdm.someM hod0⟩, ?_⟩
  conv => whnf
  refine ⟨fun _ => hdm.someM hod0, ?_⟩
  conv => whnf
  refine ⟨.b od.k.yes, ⟨rfl, rfl, fun _ => mem_yes hdm hod0⟩, ?_⟩
  conv => whnf
  refine ⟨fun h => absurd h (by simp [heD, hlend, hdyes]), fun _ => ?_⟩
  conv => whnf
  refine Or.inr ⟨[], sc10_11, by kernel_rfl, ?_⟩
  conv => whnf
  refine ⟨⟨Int.le_refl _, by show (0 : Int) < (osd.length : Int); omega, hdm.someM hod0⟩, ?_⟩
  conv => whnf
  refine ⟨.g (msgC od.k (.sl od.A od.k.items.length od.c)), ⟨rfl, rfl, mem_msg hdm hod0⟩, ?_⟩
  conv => whnf
  refine ⟨⟨nc, Ac, cc, od.k, od.A, od.c, m4⟩, ⟨⟨(hcc.ext hc3).ext h34, hlc, by rw [hnc, iC]; decide⟩, ⟨(hsdm od hdin).1, (hsdm od hdin).2.1, by rw [hodk, zD]; decide⟩⟩, ?_⟩
  conv => whnf
  repeat (first | exact trivial | (refine ⟨by first | exact ⟨rfl, rfl, rfl⟩ | rfl | exact ⟨rfl, rfl⟩ | exact ⟨rfl, fun _ _ => rfl⟩ | exact fun _ _ h => h | (intro _ _ h; cases h; done), ?_⟩; conv => whnf))
  rintro ⟨ne, Ae, ce, ose, Oe, oec, me⟩ ⟨hne, hke, ⟨hce, hle⟩, ⟨hoe, hoec⟩, hse, hxe⟩ m5 h45 he5
  have hwe : stepR nc od.k = we := by rw [hnc, hodk]; exact vE
  have heE : (stepR nc od.k).e = 0 := by rw [hwe]; exact eE
  have hne : ne = we.n := by rw [← hwe]; exact hne
  have hke : ose.map (·.k) = we.ks := by rw [← hwe]; exact hke
  have hlene : ose.length = 2 := by have := congrArg List.length hke; rw [List.length_map, lE] at this; exact this
  have hE := head_of hke lE
  refine Exists.elim hE fun oe hE => And.elim (fun hoe0 hoek => ?_) hE
  have hem := hoe.ext he5
  have hsem := hse.ext he5
  have hein : oe ∈ ose := List.mem_of_getElem? hoe0
  have hrole : ne.role = 2 := by rw [hne]; exact fR
  have hilen : ne.log.items.length = 1 := by rw [hne]; exact fI
  repeat (first | exact trivial | (refine ⟨by first | exact ⟨rfl, rfl, rfl⟩ | rfl | exact ⟨rfl, rfl⟩ | exact ⟨rfl, fun _ _ => rfl⟩ | exact fun _ _ h => h | (intro _ _ h; cases h; done), ?_⟩; conv => whnf))
  refine ⟨fun h => absurd h (by simp [heE, hlene, hrole, hilen]), fun _ => ?_⟩
  conv => whnf
  refine Or.inr ⟨[], sc10_14, by kernel_rfl, ?_⟩
  conv => whnf
  refine ⟨⟨Int.le_refl _, by show (0 : Int) < (ose.length : Int); omega, hem.someM hoe0⟩, ?_⟩
  conv => whnf
  refine ⟨.g (msgC oe.k (.sl oe.A oe.k.items.length oe.c)), ⟨rfl, rfl, mem_msg hem hoe0⟩, ?_⟩
  conv => whnf
  refine ⟨⟨nd, Ad, cd, oe.k, oe.A, oe.c, m5⟩, ⟨⟨(hcd.ext hd4).ext h45, hld, by rw [hnd, iD]; decide⟩, ⟨(hsem oe hein).1, (hsem oe hein).2.1, by rw [hoek, zE]; decide⟩⟩, ?_⟩
  conv => whnf
  repeat (first | exact trivial | (refine ⟨by first | exact ⟨rfl, rfl, rfl⟩ | rfl | exact ⟨rfl, rfl⟩ | exact ⟨rfl, fun _ _ => rfl⟩ | exact fun _ _ h => h | (intro _ _ h; cases h; done), ?_⟩; conv => whnf))
  rintro ⟨nf, Af, cf, osf, Of, ofc, mf⟩ ⟨hnf, hkf, ⟨hcf, hlf⟩, ⟨hof, hofc⟩, hsf, hxf⟩ m6 h56 hf6
  have hwf : stepR nd oe.k = wf := by rw [hnd, hoek]; exact vF
  have heF : (stepR nd oe.k).e = 0 := by rw [hwf]; exact eF
  have hkf : osf.map (·.k) = wf.ks := by rw [← hwf]; exact hkf
  have hlenf : osf.length = 1 := by have := congrArg List.length hkf; rw [List.length_map, lF] at this; exact this
  have hE := head_of hkf lF
  refine Exists.elim hE fun of hE => And.elim (fun hof0 hofk => ?_) hE
  have hfm := hof.ext hf6
  have hsfm := hsf.ext hf6
  have hfin : of ∈ osf := List.mem_of_getElem? hof0
  repeat (first | exact trivial | (refine ⟨by first | exact ⟨rfl, rfl, rfl⟩ | rfl | exact ⟨rfl, rfl⟩ | exact ⟨rfl, fun _ _ => rfl⟩ | exact fun _ _ h => h | (intro _ _ h; cases h; done), ?_⟩; conv => whnf))
  refine ⟨fun h => absurd h (by simp [heF, hlenf]), fun _ => ?_⟩
  conv => whnf
  refine Or.inr ⟨[], sc10_17, by kernel_rfl, ?_⟩
  conv => whnf
  refine ⟨⟨Int.le_refl _, by show (0 : Int) < (osf.length : Int); omega, hfm.someM hof0⟩, ?_⟩
  conv => whnf
  refine ⟨.g (msgC of.k (.sl of.A of.k.items.length of.c)), ⟨rfl, rfl, mem_msg hfm hof0⟩, ?_⟩
  conv => whnf
  refine ⟨⟨ne, Ae, ce, of.k, of.A, of.c, m6⟩, ⟨⟨(hce.ext he5).ext h56, hle, by rw [hilen]; decide⟩, ⟨(hsfm of hfin).1, (hsfm of hfin).2.1, by rw [hofk, zF]; decide⟩⟩, ?_⟩
  conv => whnf
  repeat (first | exact trivial | (refine ⟨by first | exact ⟨rfl, rfl, rfl⟩ | rfl | exact ⟨rfl, rfl⟩ | exact ⟨rfl, fun _ _ => rfl⟩ | exact fun _ _ h => h | (intro _ _ h; cases h; done), ?_⟩; conv => whnf))
  rintro ⟨ng, Ag, cg, osg, Og, ogc, mg⟩ ⟨hng, hkg, ⟨hcg, hlg⟩, ⟨hog, hogc⟩, hsg, hxg⟩ m7 h67 hg7
  have hwg : stepR ne of.k = wg := by rw [hne, hofk]; exact vG
  have heG : (stepR ne of.k).e = 0 := by rw [hwg]; exact eG
  have hng : ng = wg.n := by rw [← hwg]; exact hng
  have hcom : ng.commit = 1 := by rw [hng]; exact fG
  have hall := ext_trans h01 (ext_trans h12 (ext_trans h23 (ext_trans h34 (ext_trans h45 (ext_trans h56 h67)))))
  repeat (first | exact trivial | (refine ⟨by first | exact ⟨rfl, rfl, rfl⟩ | rfl | exact ⟨rfl, rfl⟩ | exact ⟨rfl, fun _ _ => rfl⟩ | exact fun _ _ h => h | (intro _ _ h; cases h; done), ?_⟩; conv => whnf))
  refine ⟨(), trivial, ?_⟩
  conv => whnf
  repeat (first | exact trivial | exact fun _ _ h => h | (refine ⟨by first | exact ⟨rfl, rfl, rfl⟩ | rfl | exact ⟨rfl, rfl⟩ | exact ⟨rfl, fun _ _ => rfl⟩ | exact fun _ _ h => h | (intro _ _ h; cases h; done) | (simp [heG, hcom]), ?_⟩; conv => whnf))
  exact hall
end Go.Proofs.Ytjpjiniclibgkaa.Sx
