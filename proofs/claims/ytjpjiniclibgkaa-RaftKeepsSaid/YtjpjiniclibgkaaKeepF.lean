/- A message is heard: Step. Then: A message is heard, as the document says. -/
import Derived.Test.YtjpjiniclibgkaaKeepE
namespace Go.Proofs.Ytjpjiniclibgkaa.Sx
open Go

def turnN (n : Node) (k : Msg) : Node := if k.term > n.log.term then followN n k.term (-1) else n
def voteB (n : Node) (k : Msg) : Bool := ((n.role == 1) && (k.term == n.log.term)) && k.yes
def orV (n : Node) (k : Msg) : Int := bits .or .i64 n.votes (IntKind.i64.wrap (1 * 2 ^ (min k.frm.toNat IntKind.i64.bits)))
def orN (n : Node) (k : Msg) : Node := { n with votes := orV n k }
def zeroN : Node := ⟨0, 0, ⟨0, 0, 0, 0, ByteArray.empty, []⟩, 0, 0, 0, 0, fun _ => 0, fun _ => 0⟩
structure StepR where
  n : Node
  ks : List Msg
  e : Int
def heardS (n : Node) (k : Msg) (r : HeardR) : StepR := ⟨r.n, repl1 n k r, 0⟩
def leadS (n : Node) : StepR := if enoughB n = true then ⟨winN n, feedAllK (winN n), 0⟩ else ⟨n, [], 0⟩
def gotS (n : Node) (k : Msg) : StepR := ⟨gotN n k, if gotY n k = true then [feedN (gotN n k) k.frm] else [], 0⟩
def leaderS (n : Node) (k : Msg) : StepR :=
  if k.term < n.log.term then ⟨n, [sayN n k.frm (ansM 0 false)], 0⟩
  else if n.role = 2 then ⟨n, [], 0⟩
  else if k.kind = 3 then heardS (followN n k.term k.frm) k (appendR (followN n k.term k.frm) k)
  else heardS (followN n k.term k.frm) k (installR (followN n k.term k.frm) k)
def heardK (n : Node) (k : Msg) : StepR :=
  if k.kind = 1 then heardS n k (askR n k)
  else if k.kind = 2 then (if voteB n k = true then leadS (orN n k) else ⟨n, [], 0⟩)
  else if k.kind = 4 then gotS n k
  else leaderS n k
def stepR (n : Node) (k : Msg) : StepR := if goodB n = true ∧ soundB n k = true then heardK (turnN n k) k else ⟨zeroN, [], 1⟩
structure StepG where
  n : Node
  A : Option Addr
  c : Nat
  k : Msg
  D : Option Addr
  e : Nat
  m : Mem
structure StepB where
  n : Node
  A : Option Addr
  c : Nat
  os : List OMsg
  O : Option Addr
  oc : Nat
  m : Mem
/-- What a turn hands back is its own: no part of it lies where the memory had something, and no two parts lie in one block. -/
structure News (m : Mem) (b : StepB) : Prop where
  wa : Whole b.m b.A (b.n.log.items.length * 6)
  fa : Fresh m b.A (b.n.log.items.length * 6)
  wo : Whole b.m b.O (b.os.length * 10)
  fo : Fresh m b.O (b.os.length * 10)
  fi : ∀ o ∈ b.os, Fresh m o.A o.w
  ao : Apart b.A (b.n.log.items.length * 6) b.O (b.os.length * 10)
  ai : ∀ o ∈ b.os, Apart b.A (b.n.log.items.length * 6) o.A o.w
  oi : ∀ o ∈ b.os, Apart b.O (b.os.length * 10) o.A o.w
theorem news_two {m m0 m1 m2 : Mem} {n : Node} {A1 A2 : Option Addr} {c1 c2 N : Nat} {xs ys : List Value} {os : List OMsg} (h1 : Sealed m0 m1 A1 c1 N 6 xs) (hn : n.log.items.length ≤ N) (h2 : Sealed m1 m2 A2 c2 os.length 10 ys) (hs : Said m0 os)
    (hf : ∀ o ∈ os, Fresh m o.A o.w) (hx : ∀ b o, m b = some o → m0 b = some o) : News m ⟨n, A1, c1, os, A2, c2, m2⟩ := by
  have hnn : n.log.items.length * 6 ≤ N * 6 := Nat.mul_le_mul_right _ hn
  have w1 := (Whole.of_sealed h1).less hnn
  have f1 := (Fresh.of_sealed h1).less hnn
  have f2 := Fresh.of_sealed h2
  refine ⟨w1.ext h2.ext, f1.back hx, .of_sealed h2, (f2.back h1.ext).back hx, hf, .of w1 f2, fun o ho => (Apart.of (hs o ho).2.2 f1).symm, fun o ho => (Apart.of ((hs o ho).2.2.ext h1.ext) f2).symm⟩
theorem news_st {m m3 m5 : Mem} {n : Node} {A2 A5 : Option Addr} {c2 c5 : Nat} {ys : List Value} {os : List OMsg} (hw : Own m m3 A2 (n.log.items.length * 6) os) (h5 : Sealed m3 m5 A5 c5 os.length 10 ys) (hs : Said m3 os)
    (hf : ∀ o ∈ os, Fresh m o.A o.w) (hx : ∀ b o, m b = some o → m3 b = some o) : News m ⟨n, A2, c2, os, A5, c5, m5⟩ := by
  have f5 := Fresh.of_sealed h5
  exact ⟨hw.1.ext h5.ext, hw.2.1, .of_sealed h5, f5.back hx, hf, .of hw.1 f5, hw.2.2, fun o ho => (Apart.of (hs o ho).2.2 f5).symm⟩
theorem news_one {m m1 : Mem} {n : Node} {A1 : Option Addr} {c1 : Nat} {xs : List Value} (h1 : Sealed m m1 A1 c1 n.log.items.length 6 xs) : News m ⟨n, A1, c1, [], none, 0, m1⟩ :=
  ⟨.of_sealed h1, .of_sealed h1, .inl rfl, .inl rfl, fun _ h => (by cases h), .inr (.inl rfl), fun _ h => (by cases h), fun _ h => (by cases h)⟩
theorem news_err {m : Mem} : News m ⟨zeroN, none, 0, [], none, 0, m⟩ :=
  ⟨.inl rfl, .inl rfl, .inl rfl, .inl rfl, fun _ h => (by cases h), .inl rfl, fun _ h => (by cases h), fun _ h => (by cases h)⟩
/-- What a turn hands back, in memory that stays. -/
def Told (m : Mem) (b : StepB) : Prop := (Cells b.m b.A (itemsV b.n.log.items) ∧ b.n.log.items.length ≤ b.c) ∧ (Cells b.m b.O (saidV b.os) ∧ b.os.length ≤ b.oc) ∧ Said b.m b.os ∧ (∀ x o, m x = some o → b.m x = some o) ∧ News m b
def outN (b : StepB) (e : Int) : Out := .ret (.t [.g (nodeC b.n (.sl b.A b.n.log.items.length b.c)), .sl b.O b.os.length b.oc, .i .i64 e])
def stepSpec : Spec where
  A := StepG
  R := fun ⟨n, A, c, k, D, e, m⟩ => (Cells m A (itemsV n.log.items) ∧ n.log.items.length ≤ c ∧ n.log.items.length < 2 ^ 62) ∧ (Cells m D (itemsV k.items) ∧ k.items.length ≤ e ∧ k.items.length < 2 ^ 62)
  J := fun ⟨_, _, _, _, _, _, m⟩ => m
  args := fun ⟨n, A, c, k, D, e, _⟩ => [.g (nodeC n (.sl A n.log.items.length c)), .g (msgC k (.sl D k.items.length e))]
  h := fun _ => []
  nx := 0
  Bb := StepB
  C := fun ⟨n, _, _, k, _, _, m⟩ b => b.n = (stepR n k).n ∧ b.os.map (·.k) = (stepR n k).ks ∧ Told m b
  out := fun ⟨n, _, _, k, _, _, _⟩ b => outN b (stepR n k).e
  h2 := fun _ _ => []
  nx2 := 0
  J2 := fun _ b => b.m
  ext := true
  md := 2
  so := true
theorem turn_fine {n : Node} {k : Msg} (h : Fine n) (hk : Heard n k) : Fine (turnN n k) := by
  unfold turnN
  split
  · rename_i ht
    have hlog : (followN n k.term (-1)).log = { n.log with term := k.term, vote := -1 } := by show (if k.term > n.log.term then _ else _) = _; rw [if_pos ht]
    have hli : lastI (followN n k.term (-1)) = lastI n := by unfold lastI; rw [hlog]
    have := h.s1; have := h.s2; have := h.t1; have := hk.t2; have := h.b1; have := h.ris.2; have := h.c1; have := h.c2
    have hll : lastI n = n.log.base + n.log.items.length := rfl
    have hp : (0 : Int) < 2 ^ n.size.toNat := Int.pow_pos (by decide)
    refine ⟨h.s1, h.s2, h.m1, h.m2, ?_, ?_, ?_, ?_, ?_, ?_, ?_, ?_, ?_, by show (0 : Int) ≤ 0; omega, by show (0 : Int) ≤ 2; omega, by show (-1 : Int) ≤ -1; omega, by show (-1 : Int) < n.size; omega, ?_, ?_, by show (0 : Int) ≤ 0; omega, by show (0 : Int) < _; exact hp, ?_⟩
    all_goals try rw [hlog]
    · show 0 ≤ k.term; omega
    · exact hk.t2
    · show (-1 : Int) ≤ -1; omega
    · show (-1 : Int) < n.size; omega
    · exact h.b1
    · exact h.b2
    · exact h.bt
    · exact h.l
    · exact ⟨h.ris.1, by show endT n.log.baseTerm n.log.items ≤ k.term; omega⟩
    · exact h.c1
    · rw [hli]; exact h.c2
    · exact ⟨fun i hi => by rw [hli]; show (0 : Int) ≤ 0 ∧ (0 : Int) ≤ _; omega, fun i hi => by rw [hli]; show (0 : Int) ≤ 0 ∧ (0 : Int) ≤ _; omega⟩
  · exact h
theorem heard_turn {n a : Node} {k : Msg} (ha : a = turnN n k) (h : Heard n k) : Heard a k := by
  have hm : a.me = n.me := by rw [ha]; unfold turnN; split <;> rfl
  have hs : a.size = n.size := by rw [ha]; unfold turnN; split <;> rfl
  exact ⟨by rw [hm]; exact h.to, h.f1, by rw [hs]; exact h.f2, by rw [hm]; exact h.f3, h.k1, h.k2, h.t1, h.t2, h.a1, h.a2, h.b1, h.b2, h.c1, h.c2, h.l, h.up⟩
theorem follow_fine {n : Node} {k : Msg} (h : Fine n) (hk : Heard n k) (_ht : ¬ k.term < n.log.term) : Fine (followN n k.term k.frm) := by
  have := h.s1; have := h.s2; have := h.t1; have := hk.t2; have := h.b1; have := h.ris.2; have := h.c1; have := h.c2; have := hk.f1; have := hk.f2
  have hll : lastI n = n.log.base + n.log.items.length := rfl
  have hp : (0 : Int) < 2 ^ n.size.toNat := Int.pow_pos (by decide)
  by_cases ht : k.term > n.log.term
  · have hlog : (followN n k.term k.frm).log = { n.log with term := k.term, vote := -1 } := by show (if k.term > n.log.term then _ else _) = _; rw [if_pos ht]
    have hli : lastI (followN n k.term k.frm) = lastI n := by unfold lastI; rw [hlog]
    refine ⟨h.s1, h.s2, h.m1, h.m2, ?_, ?_, ?_, ?_, ?_, ?_, ?_, ?_, ?_, by show (0 : Int) ≤ 0; omega, by show (0 : Int) ≤ 2; omega, by show (-1 : Int) ≤ k.frm; omega, by show k.frm < n.size; omega, ?_, ?_, by show (0 : Int) ≤ 0; omega, by show (0 : Int) < _; exact hp, ?_⟩
    all_goals try rw [hlog]
    · show 0 ≤ k.term; omega
    · exact hk.t2
    · show (-1 : Int) ≤ -1; omega
    · show (-1 : Int) < n.size; omega
    · exact h.b1
    · exact h.b2
    · exact h.bt
    · exact h.l
    · exact ⟨h.ris.1, by show endT n.log.baseTerm n.log.items ≤ k.term; omega⟩
    · exact h.c1
    · rw [hli]; exact h.c2
    · exact ⟨fun i hi => by rw [hli]; show (0 : Int) ≤ 0 ∧ (0 : Int) ≤ _; omega, fun i hi => by rw [hli]; show (0 : Int) ≤ 0 ∧ (0 : Int) ≤ _; omega⟩
  · have hlog : (followN n k.term k.frm).log = n.log := by show (if k.term > n.log.term then _ else _) = _; rw [if_neg ht]
    have hli : lastI (followN n k.term k.frm) = lastI n := by unfold lastI; rw [hlog]
    refine ⟨h.s1, h.s2, h.m1, h.m2, ?_, ?_, ?_, ?_, ?_, ?_, ?_, ?_, ?_, by show (0 : Int) ≤ 0; omega, by show (0 : Int) ≤ 2; omega, by show (-1 : Int) ≤ k.frm; omega, by show k.frm < n.size; omega, ?_, ?_, by show (0 : Int) ≤ 0; omega, by show (0 : Int) < _; exact hp, ?_⟩
    all_goals try rw [hlog]
    · exact h.t1
    · exact h.t2
    · exact h.v1
    · exact h.v2
    · exact h.b1
    · exact h.b2
    · exact h.bt
    · exact h.l
    · exact h.ris
    · exact h.c1
    · rw [hli]; exact h.c2
    · exact ⟨fun i hi => by rw [hli]; show (0 : Int) ≤ 0 ∧ (0 : Int) ≤ _; omega, fun i hi => by rw [hli]; show (0 : Int) ≤ 0 ∧ (0 : Int) ≤ _; omega⟩
theorem or_fit {n : Node} {k : Msg} (h : Fine n) : Fit (orN n k) := have h := h.fit; ⟨h.s1, h.s2, h.m1, h.m2, h.b1, h.b2, h.l, h.c1, h.c2⟩
def S13 : List (Nat × Spec) := (58, hearSpec 85 appendR) :: S12
theorem S13_all : ∀ f s, findS S13 f = some s → SpecOk Try.prog f s := CP_cons S12_all refLay_ok
theorem S13_ok : CPOk Try.prog (CPs S13) := CPs_ok S13_all
theorem since_nil {m : Mem} {os : List OMsg} {ks : List Msg} (h : Since m [] os ks) : os.map (·.k) = ks := by
  obtain ⟨new, rfl, h, _⟩ := h
  exact h
theorem or_lt {v f : Nat} (hv : v < 128) (hf : f < 7) : 0 ≤ bits .or .i64 (v : Int) (IntKind.i64.wrap (1 * 2 ^ (min (f : Int).toNat IntKind.i64.bits))) ∧ bits .or .i64 (v : Int) (IntKind.i64.wrap (1 * 2 ^ (min (f : Int).toNat IntKind.i64.bits))) < 128 := by
  have key : ((List.range 128).all fun v => (List.range 7).all fun f => decide (0 ≤ bits .or .i64 (v : Int) (IntKind.i64.wrap (1 * 2 ^ (min (f : Int).toNat IntKind.i64.bits)))) && decide (bits .or .i64 (v : Int) (IntKind.i64.wrap (1 * 2 ^ (min (f : Int).toNat IntKind.i64.bits))) < 128)) = true := by kernel_rfl
  have := List.all_eq_true.1 (List.all_eq_true.1 key v (List.mem_range.2 hv)) f (List.mem_range.2 hf)
  simpa using this
theorem pow_le7 {s : Int} (h : 1 ≤ s ∧ s ≤ 7) : (2 : Int) ^ s.toNat ≤ 128 := by
  have : s = 1 ∨ s = 2 ∨ s = 3 ∨ s = 4 ∨ s = 5 ∨ s = 6 ∨ s = 7 := by omega
  rcases this with rfl | rfl | rfl | rfl | rfl | rfl | rfl <;> decide
theorem orV_lt {n : Node} {k : Msg} (h : Fine n) (hk : Heard n k) : 0 ≤ orV n k ∧ orV n k < 128 := by
  have := h.w1; have := h.w2; have := pow_le7 ⟨h.s1, h.s2⟩; have := hk.f1; have := hk.f2; have := h.s2
  have := or_lt (v := n.votes.toNat) (f := k.frm.toNat) (by omega) (by omega)
  have e1 : ((n.votes.toNat : Nat) : Int) = n.votes := by omega
  have e2 : ((k.frm.toNat : Nat) : Int) = k.frm := by omega
  rw [e1, e2] at this
  exact this
theorem Fine.mono {n : Node} (h : Fine n) : Mono n := mono_of h.fit h.ris h.c1
theorem valid_none : validB noneE = true := by decide
theorem lay_mono {n : Node} {e : Entry} (h : Fine n) (hv : validB e = true) : Mono (layN n e) := by
  have hl : (layN n e).log.items.length = n.log.items.length + 1 := by show (n.log.items ++ [_]).length = _; rw [List.length_append]; rfl
  have := h.fit
  refine mono_of ⟨this.s1, this.s2, this.m1, this.m2, this.b1, this.b2, ?_, this.c1, this.c2⟩ (rising_snoc h.ris rfl hv) h.c1
  rw [hl]; have := h.l; omega
theorem lead_mono {n : Node} (h : Fine n) : Mono (layN (leadN n) noneE) := fun i j h1 h2 h3 h4 => lay_mono (n := n) (e := noneE) h valid_none i j h1 h2 h3 h4
theorem lead_mono' {n : Node} {k : Msg} (h : Fine n) : Mono (layN (leadN (orN n k)) noneE) := fun i j h1 h2 h3 h4 => lay_mono (n := n) (e := noneE) h valid_none i j h1 h2 h3 h4
set_option maxRecDepth 100000 in
set_option maxHeartbeats 6400000 in
theorem step_ok : SpecOk Try.prog 12 stepSpec := by
  refine spec_of_exec (fn := Try.f12) (c := Try.f12.body.getD .skip) (d := 0) (lv := ([0, 1, 2, 3, 4, 5, 6, 7, 16, 28, 34, 35, 58, 77, 84, 89, 111, 126])) (DP := DPx T1 (CPs S13) ([0, 1, 2, 3, 4, 5, 6, 7, 16, 28, 34, 35, 58, 77, 84, 89, 111, 126])) T1_ok S13_ok (fun B => DPx_ok T1_ok ord S13_ok B) stepSpec (by rfl) (by rfl) (by rfl) (fun _ => Nat.le_of_ble_eq_true (by kernel_rfl)) ?_
  rintro ⟨n, A, c, k, D, e, m⟩ ⟨⟨hM, hcap, hl⟩, ⟨hD, hde, hkl⟩⟩
  conv => whnf
  refine ⟨⟨n, A, c, m⟩, ⟨hM, hl⟩, ?_⟩
  conv => whnf
  repeat (first | exact trivial | (refine ⟨by first | exact ⟨rfl, rfl, rfl⟩ | rfl | exact ⟨rfl, rfl⟩ | exact ⟨rfl, fun _ _ => rfl⟩ | exact fun _ _ h => h | (intro _ _ h; cases h; done), ?_⟩; conv => whnf))
  intro _ _
  conv => whnf
  refine ⟨fun hg => ?_, fun hg => ?_⟩
  · have hg : goodB n = false := by simpa using hg
    have hr : stepR n k = ⟨zeroN, [], 1⟩ := by unfold stepR; rw [if_neg (fun h => by rw [hg] at h; cases h.1)]
    conv => whnf
    refine ⟨fun _ => ?_, fun h => (by cases h)⟩
    conv => whnf
    conv => whnf
    refine ⟨⟨zeroN, none, 0, [], none, 0, m⟩, ⟨by rw [hr], by rw [hr] <;> rfl, ⟨Cells.nil _ _, Nat.le_refl _⟩, ⟨Cells.nil _ _, Nat.le_refl _⟩, fun _ h => (by cases h), fun _ _ h => h, news_err⟩, ?_⟩
    conv => whnf
    repeat (first | exact trivial | exact fun _ _ h => h | (refine ⟨by first | exact ⟨rfl, rfl, rfl⟩ | rfl | exact ⟨rfl, rfl⟩ | exact ⟨rfl, fun _ _ => rfl⟩ | exact fun _ _ h => h | (intro _ _ h; cases h; done) | (rw [hr] <;> rfl) | (rw [hr]; done), ?_⟩; conv => whnf))
  · have hg : goodB n = true := by simpa using hg
    have hfine := fine_iff.1 hg
    conv => whnf
    refine ⟨⟨n, A, c, k, D, e, m⟩, ⟨hD, hkl⟩, ?_⟩
    conv => whnf
    repeat (first | exact trivial | (refine ⟨by first | exact ⟨rfl, rfl, rfl⟩ | rfl | exact ⟨rfl, rfl⟩ | exact ⟨rfl, fun _ _ => rfl⟩ | exact fun _ _ h => h | (intro _ _ h; cases h; done), ?_⟩; conv => whnf))
    intro _ _
    conv => whnf
    refine ⟨fun hs => ?_, fun hs => ?_⟩
    · have hs : soundB n k = false := by simpa using hs
      have hr : stepR n k = ⟨zeroN, [], 1⟩ := by unfold stepR; rw [if_neg (fun h => by rw [hs] at h; cases h.2)]
      conv => whnf
      refine ⟨⟨zeroN, none, 0, [], none, 0, m⟩, ⟨by rw [hr], by rw [hr] <;> rfl, ⟨Cells.nil _ _, Nat.le_refl _⟩, ⟨Cells.nil _ _, Nat.le_refl _⟩, fun _ h => (by cases h), fun _ _ h => h, news_err⟩, ?_⟩
      conv => whnf
      repeat (first | exact trivial | exact fun _ _ h => h | (refine ⟨by first | exact ⟨rfl, rfl, rfl⟩ | rfl | exact ⟨rfl, rfl⟩ | exact ⟨rfl, fun _ _ => rfl⟩ | exact fun _ _ h => h | (intro _ _ h; cases h; done) | (rw [hr] <;> rfl) | (rw [hr]; done), ?_⟩; conv => whnf))
    · have hs : soundB n k = true := by simpa using hs
      have hh := heard_iff.1 hs
      have hr : stepR n k = heardK (turnN n k) k := by unfold stepR; rw [if_pos ⟨hg, hs⟩]
      have hft := turn_fine hfine hh
      have hlen := hfine.l
      conv => whnf
      refine ⟨⟨n, A, c, m⟩, ⟨hM, by show n.log.items.length ≤ 2 ^ 40; omega⟩, ?_⟩
      conv => whnf
      repeat (first | exact trivial | (refine ⟨by first | exact ⟨rfl, rfl, rfl⟩ | rfl | exact ⟨rfl, rfl⟩ | exact ⟨rfl, fun _ _ => rfl⟩ | exact fun _ _ h => h | (intro _ _ h; cases h; done), ?_⟩; conv => whnf))
      intro _ _
      conv => whnf
      refine Or.inr ⟨[], sc12_4, by kernel_rfl, ?_⟩
      conv => whnf
      refine ⟨fun ht => ?_, fun ht => ?_⟩
      · have ht : k.term > n.log.term := of_decide_eq_true ht
        conv => whnf
        refine ⟨⟨n, .own, [], m, k.term, -1⟩, trivial, ?_⟩
        conv => whnf
        repeat (first | exact trivial | (refine ⟨by first | exact ⟨rfl, rfl, rfl⟩ | rfl | exact ⟨rfl, rfl⟩ | exact ⟨rfl, fun _ _ => rfl⟩ | exact fun _ _ h => h | (intro _ _ h; cases h; done), ?_⟩; conv => whnf))
        intro a ha
        have ha : a = turnN n k := by rw [ha]; unfold turnN; rw [if_pos ht]
        rw [← ha] at hr hft
        conv => whnf
        refine ⟨fun hk1 => ?_, fun hk1 => ?_⟩
        · have hk1 : k.kind = 1 := eq_of_beq hk1
          have hr : stepR n k = heardS a k (askR a k) := by rw [hr]; unfold heardK; rw [if_pos hk1]
          conv => whnf
          refine ⟨⟨a, [], m, k, D, e⟩, ⟨(hft).fit, ⟨hh.a1, by have := hh.a2; omega, hh.c1, by have := hh.c2; omega⟩, by have := hh.l; omega, ⟨hD, hde⟩, fun _ h => (by cases h), by decide⟩, ?_⟩
          conv => whnf
          repeat (first | exact trivial | (refine ⟨by first | exact ⟨rfl, rfl, rfl⟩ | rfl | exact ⟨rfl, rfl⟩ | exact ⟨rfl, fun _ _ => rfl⟩ | exact fun _ _ h => h | (intro _ _ h; cases h; done), ?_⟩; conv => whnf))
          rintro ⟨n', ys, os'⟩ ⟨hn, hw, hs', hsd⟩
          conv => whnf
          refine Or.inr ⟨[3], sc12_24, by kernel_rfl, ?_⟩
          conv => whnf
          repeat (first | exact trivial | (refine ⟨by first | exact ⟨rfl, rfl, rfl⟩ | rfl | exact ⟨rfl, rfl⟩ | exact ⟨rfl, fun _ _ => rfl⟩ | exact fun _ _ h => h | (intro _ _ h; cases h; done), ?_⟩; conv => whnf))
          intro A1 c1 m1 h1
          conv => whnf
          intro A2 c2 m2 h2
          have hx := ext_trans h1.ext h2.ext
          refine ⟨⟨n', A1, c1, os', A2, c2, m2⟩, ⟨hn.trans (by rw [hr] <;> rfl), (since_nil hs').trans (by rw [hr] <;> rfl), ⟨(wide_cells hw h1).ext h2.ext, Nat.le_trans hw.1 h1.le⟩, ⟨.of_sealed h2, h2.le⟩, (hsd.ext h1.ext).ext h2.ext, hx, news_two h1 hw.1 h2 hsd hs'.fresh fun _ _ h => h⟩, ?_⟩
          conv => whnf
          repeat (first | exact trivial | exact fun _ _ h => h | (refine ⟨by first | exact ⟨rfl, rfl, rfl⟩ | rfl | exact ⟨rfl, rfl⟩ | exact ⟨rfl, fun _ _ => rfl⟩ | exact fun _ _ h => h | (intro _ _ h; cases h; done) | (rw [hr] <;> rfl), ?_⟩; conv => whnf))
          exact ⟨hx, fun _ _ h => h⟩
        · have hk1 : ¬ k.kind = 1 := by simpa using hk1
          conv => whnf
          refine ⟨fun hk2 => ?_, fun hk2 => ?_⟩
          · have hk2 : k.kind = 2 := eq_of_beq hk2
            have hr : stepR n k = if voteB a k = true then leadS (orN a k) else ⟨a, [], 0⟩ := by rw [hr]; unfold heardK; rw [if_neg hk1, if_pos hk2]
            conv => whnf
            refine Or.inr ⟨[], sc12_19, by kernel_rfl, ?_⟩
            conv => whnf
            refine ⟨fun hv => ?_, fun hv => ?_⟩
            · have hv : voteB a k = true := by rw [← hv]; unfold voteB; simp only [ifand] <;> rfl
              have hr : stepR n k = leadS (orN a k) := by rw [hr, if_pos hv]
              have hor := orV_lt hft (heard_turn ha hh)
              have hfl := hft.l
              have hfc := hft.c2
              conv => whnf
              refine Or.inr ⟨[], sc12_20, by kernel_rfl, ?_⟩
              conv => whnf
              repeat (first | exact trivial | (refine ⟨by first | exact ⟨rfl, rfl, rfl⟩ | rfl | exact ⟨rfl, rfl⟩ | exact ⟨rfl, fun _ _ => rfl⟩ | exact fun _ _ h => h | (intro _ _ h; cases h; done) | exact hh.f1, ?_⟩; conv => whnf))
              cases hy : enoughB (orN a k) with
              | true =>
                have hr : stepR n k = ⟨winN (orN a k), feedAllK (winN (orN a k)), 0⟩ := by rw [hr]; unfold leadS; rw [if_pos hy]
                refine ⟨⟨orN a k, [], m, true⟩, ⟨or_fit hft, by show (a).log.items.length ≤ 299; omega, hfc, lead_mono' hft, ⟨hor.1, by show orV a k < 256; omega⟩, fun _ h => (by cases h), by decide, hy⟩, ?_⟩
                conv => whnf
                repeat (first | exact trivial | (refine ⟨by first | exact ⟨rfl, rfl, rfl⟩ | rfl | exact ⟨rfl, rfl⟩ | exact ⟨rfl, fun _ _ => rfl⟩ | exact fun _ _ h => h | (intro _ _ h; cases h; done), ?_⟩; conv => whnf))
                rintro ⟨n', A2, c2, os2, m2⟩ ⟨hpost, hext⟩ m3 h3 h4
                obtain ⟨hn', hsince, hsaid, hc, hcp, how⟩ := hpost rfl
                conv => whnf
                refine Or.inr ⟨[3], sc12_24, by kernel_rfl, ?_⟩
                conv => whnf
                repeat (first | exact trivial | (refine ⟨by first | exact ⟨rfl, rfl, rfl⟩ | rfl | exact ⟨rfl, rfl⟩ | exact ⟨rfl, fun _ _ => rfl⟩ | exact fun _ _ h => h | (intro _ _ h; cases h; done), ?_⟩; conv => whnf))
                intro A5 c5 m5 h5
                have hx := ext_trans h3 h5.ext
                refine ⟨⟨n', A2, c2, os2, A5, c5, m5⟩, ⟨hn'.trans (by rw [hr] <;> rfl), (since_nil hsince).trans (by rw [hr, hn'] <;> rfl), ⟨(hc.ext h4).ext h5.ext, hcp⟩, ⟨.of_sealed h5, h5.le⟩, (hsaid.ext h4).ext h5.ext, hx, news_st ⟨how.1.ext h4, how.2⟩ h5 (hsaid.ext h4) hsince.fresh h3⟩, ?_⟩
                conv => whnf
                repeat (first | exact trivial | exact fun _ _ h => h | (refine ⟨by first | exact ⟨rfl, rfl, rfl⟩ | rfl | exact ⟨rfl, rfl⟩ | exact ⟨rfl, fun _ _ => rfl⟩ | exact fun _ _ h => h | (intro _ _ h; cases h; done) | (rw [hr] <;> rfl), ?_⟩; conv => whnf))
                exact ⟨hx, fun _ _ h => h⟩
              | false =>
                have hr : stepR n k = ⟨orN a k, [], 0⟩ := by rw [hr]; unfold leadS; rw [if_neg (by rw [hy]; decide)]
                refine ⟨⟨orN a k, [], m, false⟩, ⟨or_fit hft, by show (a).log.items.length ≤ 299; omega, hfc, lead_mono' hft, ⟨hor.1, by show orV a k < 256; omega⟩, fun _ h => (by cases h), by decide, hy⟩, ?_⟩
                conv => whnf
                repeat (first | exact trivial | (refine ⟨by first | exact ⟨rfl, rfl, rfl⟩ | rfl | exact ⟨rfl, rfl⟩ | exact ⟨rfl, fun _ _ => rfl⟩ | exact fun _ _ h => h | (intro _ _ h; cases h; done), ?_⟩; conv => whnf))
                rintro ⟨n', A2, c2, os2, m2⟩ ⟨_, hext⟩ m3 h3 h4
                conv => whnf
                refine Or.inr ⟨[3], sc12_24, by kernel_rfl, ?_⟩
                conv => whnf
                repeat (first | exact trivial | (refine ⟨by first | exact ⟨rfl, rfl, rfl⟩ | rfl | exact ⟨rfl, rfl⟩ | exact ⟨rfl, fun _ _ => rfl⟩ | exact fun _ _ h => h | (intro _ _ h; cases h; done), ?_⟩; conv => whnf))
                intro A1 c1 m1 h1
                conv => whnf
                intro A2 c2 m2 h2
                have hx := ext_trans h3 (ext_trans h1.ext h2.ext)
                refine ⟨⟨orN a k, A1, c1, [], A2, c2, m2⟩, ⟨by rw [hr], by rw [hr] <;> rfl, ⟨(Cells.of_sealed h1).ext h2.ext, h1.le⟩, ⟨.of_sealed h2, h2.le⟩, fun _ h => (by cases h), hx, news_two h1 (Nat.le_refl _) h2 (fun _ h => (by cases h)) (by intro o h; first | (cases h; done) | (obtain rfl := List.mem_singleton.1 h; exact Or.inl rfl)) (h3)⟩, ?_⟩
                conv => whnf
                repeat (first | exact trivial | exact fun _ _ h => h | (refine ⟨by first | exact ⟨rfl, rfl, rfl⟩ | rfl | exact ⟨rfl, rfl⟩ | exact ⟨rfl, fun _ _ => rfl⟩ | exact fun _ _ h => h | (intro _ _ h; cases h; done) | (rw [hr] <;> rfl), ?_⟩; conv => whnf))
                exact ⟨hx, fun _ _ h => h⟩
            · have hv : voteB a k = false := by rw [← hv]; unfold voteB; simp only [ifand] <;> rfl
              have hr : stepR n k = ⟨a, [], 0⟩ := by rw [hr, if_neg (by rw [hv]; decide)]
              conv => whnf
              refine Or.inr ⟨[3], sc12_24, by kernel_rfl, ?_⟩
              conv => whnf
              repeat (first | exact trivial | (refine ⟨by first | exact ⟨rfl, rfl, rfl⟩ | rfl | exact ⟨rfl, rfl⟩ | exact ⟨rfl, fun _ _ => rfl⟩ | exact fun _ _ h => h | (intro _ _ h; cases h; done), ?_⟩; conv => whnf))
              intro A1 c1 m1 h1
              conv => whnf
              intro A2 c2 m2 h2
              have hx := ext_trans (fun _ _ h => h) (ext_trans h1.ext h2.ext)
              refine ⟨⟨a, A1, c1, [], A2, c2, m2⟩, ⟨by rw [hr], by rw [hr] <;> rfl, ⟨(Cells.of_sealed h1).ext h2.ext, h1.le⟩, ⟨.of_sealed h2, h2.le⟩, fun _ h => (by cases h), hx, news_two h1 (Nat.le_refl _) h2 (fun _ h => (by cases h)) (by intro o h; first | (cases h; done) | (obtain rfl := List.mem_singleton.1 h; exact Or.inl rfl)) ((fun _ _ h => h))⟩, ?_⟩
              conv => whnf
              repeat (first | exact trivial | exact fun _ _ h => h | (refine ⟨by first | exact ⟨rfl, rfl, rfl⟩ | rfl | exact ⟨rfl, rfl⟩ | exact ⟨rfl, fun _ _ => rfl⟩ | exact fun _ _ h => h | (intro _ _ h; cases h; done) | (rw [hr] <;> rfl), ?_⟩; conv => whnf))
              exact ⟨hx, fun _ _ h => h⟩
          · have hk2 : ¬ k.kind = 2 := by simpa using hk2
            conv => whnf
            refine ⟨fun hk4 => ?_, fun hk4 => ?_⟩
            · have hk4 : k.kind = 4 := eq_of_beq hk4
              have hr : stepR n k = gotS a k := by rw [hr]; unfold heardK; rw [if_neg hk1, if_neg hk2, if_pos hk4]
              conv => whnf
              cases hy : gotY a k with
              | true =>
                have hr : stepR n k = ⟨gotN a k, [feedN (gotN a k) k.frm], 0⟩ := by rw [hr]; unfold gotS; rw [if_pos hy]
                refine ⟨⟨a, [], m, k, D, e, true⟩, ⟨hft.fit, hft.rg, hft.c2, hft.mono, ⟨hh.f1, (heard_turn ha hh).f2, hh.a1, by have := hh.a2; omega⟩, fun _ h => (by cases h), by decide, hy, fun h => (by cases h)⟩, ?_⟩
                conv => whnf
                repeat (first | exact trivial | (refine ⟨by first | exact ⟨rfl, rfl, rfl⟩ | rfl | exact ⟨rfl, rfl⟩ | exact ⟨rfl, fun _ _ => rfl⟩ | exact fun _ _ h => h | (intro _ _ h; cases h; done), ?_⟩; conv => whnf))
                rintro ⟨n', A2, c2, os2, m2⟩ ⟨hn', hpost, hext⟩ m3 h3 h4
                obtain ⟨hsince, hsaid, hc, hcp, how⟩ := hpost rfl
                conv => whnf
                refine Or.inr ⟨[3], sc12_24, by kernel_rfl, ?_⟩
                conv => whnf
                repeat (first | exact trivial | (refine ⟨by first | exact ⟨rfl, rfl, rfl⟩ | rfl | exact ⟨rfl, rfl⟩ | exact ⟨rfl, fun _ _ => rfl⟩ | exact fun _ _ h => h | (intro _ _ h; cases h; done), ?_⟩; conv => whnf))
                intro A5 c5 m5 h5
                have hx := ext_trans h3 h5.ext
                refine ⟨⟨n', A2, c2, os2, A5, c5, m5⟩, ⟨hn'.trans (by rw [hr] <;> rfl), (since_nil hsince).trans (by rw [hr, hn'] <;> rfl), ⟨(hc.ext h4).ext h5.ext, hcp⟩, ⟨.of_sealed h5, h5.le⟩, (hsaid.ext h4).ext h5.ext, hx, news_st ⟨how.1.ext h4, how.2⟩ h5 (hsaid.ext h4) hsince.fresh h3⟩, ?_⟩
                conv => whnf
                repeat (first | exact trivial | exact fun _ _ h => h | (refine ⟨by first | exact ⟨rfl, rfl, rfl⟩ | rfl | exact ⟨rfl, rfl⟩ | exact ⟨rfl, fun _ _ => rfl⟩ | exact fun _ _ h => h | (intro _ _ h; cases h; done) | (rw [hr] <;> rfl), ?_⟩; conv => whnf))
                exact ⟨hx, fun _ _ h => h⟩
              | false =>
                have hr : stepR n k = ⟨gotN a k, [], 0⟩ := by rw [hr]; unfold gotS; rw [if_neg (by rw [hy]; decide)]
                refine ⟨⟨a, [], m, k, D, e, false⟩, ⟨hft.fit, hft.rg, hft.c2, hft.mono, ⟨hh.f1, (heard_turn ha hh).f2, hh.a1, by have := hh.a2; omega⟩, fun _ h => (by cases h), by decide, hy, fun h => (by cases h)⟩, ?_⟩
                conv => whnf
                repeat (first | exact trivial | (refine ⟨by first | exact ⟨rfl, rfl, rfl⟩ | rfl | exact ⟨rfl, rfl⟩ | exact ⟨rfl, fun _ _ => rfl⟩ | exact fun _ _ h => h | (intro _ _ h; cases h; done), ?_⟩; conv => whnf))
                rintro ⟨n', A2, c2, os2, m2⟩ ⟨rfl, _, hext⟩ m3 h3 h4
                conv => whnf
                refine Or.inr ⟨[3], sc12_24, by kernel_rfl, ?_⟩
                conv => whnf
                repeat (first | exact trivial | (refine ⟨by first | exact ⟨rfl, rfl, rfl⟩ | rfl | exact ⟨rfl, rfl⟩ | exact ⟨rfl, fun _ _ => rfl⟩ | exact fun _ _ h => h | (intro _ _ h; cases h; done), ?_⟩; conv => whnf))
                intro A1 c1 m1 h1
                conv => whnf
                intro A2 c2 m2 h2
                have hx := ext_trans h3 (ext_trans h1.ext h2.ext)
                refine ⟨⟨gotN a k, A1, c1, [], A2, c2, m2⟩, ⟨by rw [hr], by rw [hr] <;> rfl, ⟨(Cells.of_sealed h1).ext h2.ext, h1.le⟩, ⟨.of_sealed h2, h2.le⟩, fun _ h => (by cases h), hx, news_two h1 (Nat.le_refl _) h2 (fun _ h => (by cases h)) (by intro o h; first | (cases h; done) | (obtain rfl := List.mem_singleton.1 h; exact Or.inl rfl)) (h3)⟩, ?_⟩
                conv => whnf
                repeat (first | exact trivial | exact fun _ _ h => h | (refine ⟨by first | exact ⟨rfl, rfl, rfl⟩ | rfl | exact ⟨rfl, rfl⟩ | exact ⟨rfl, fun _ _ => rfl⟩ | exact fun _ _ h => h | (intro _ _ h; cases h; done) | (rw [hr] <;> rfl), ?_⟩; conv => whnf))
                exact ⟨hx, fun _ _ h => h⟩
            · have hk4 : ¬ k.kind = 4 := by simpa using hk4
              have hr : stepR n k = leaderS a k := by rw [hr]; unfold heardK; rw [if_neg hk1, if_neg hk2, if_neg hk4]
              conv => whnf
              refine Or.inr ⟨[], sc12_7, by kernel_rfl, ?_⟩
              conv => whnf
              refine ⟨fun hlo => ?_, fun hlo => ?_⟩
              · have hlo : k.term < (a).log.term := of_decide_eq_true hlo
                have hr : stepR n k = ⟨a, [sayN a k.frm (ansM 0 false)], 0⟩ := by rw [hr]; unfold leaderS; rw [if_pos hlo]
                conv => whnf
                refine ⟨⟨a, .own, [], m, k.frm, ansM 0 false, none, 0⟩, ⟨by show 0 < 1000; omega, Cells.nil _ _⟩, ?_⟩
                conv => whnf
                repeat (first | exact trivial | (refine ⟨by first | exact ⟨rfl, rfl, rfl⟩ | rfl | exact ⟨rfl, rfl⟩ | exact ⟨rfl, fun _ _ => rfl⟩ | exact fun _ _ h => h | (intro _ _ h; cases h; done), ?_⟩; conv => whnf))
                rintro b rfl
                conv => whnf
                refine Or.inr ⟨[3], sc12_9, by kernel_rfl, ?_⟩
                conv => whnf
                repeat (first | exact trivial | (refine ⟨by first | exact ⟨rfl, rfl, rfl⟩ | rfl | exact ⟨rfl, rfl⟩ | exact ⟨rfl, fun _ _ => rfl⟩ | exact fun _ _ h => h | (intro _ _ h; cases h; done), ?_⟩; conv => whnf))
                intro A1 c1 m1 h1
                conv => whnf
                intro A2 c2 m2 h2
                have hx := ext_trans (fun _ _ h => h) (ext_trans h1.ext h2.ext)
                refine ⟨⟨a, A1, c1, [⟨sayN a k.frm (ansM 0 false), none, 0⟩], A2, c2, m2⟩, ⟨by rw [hr], by rw [hr] <;> rfl, ⟨(Cells.of_sealed h1).ext h2.ext, h1.le⟩, ⟨.of_sealed h2, h2.le⟩, fun _ h => (by obtain rfl := List.mem_singleton.1 h; exact ⟨Cells.nil _ _, Nat.le_refl _, Or.inl rfl⟩), hx, news_two h1 (Nat.le_refl _) h2 (fun _ h => (by obtain rfl := List.mem_singleton.1 h; exact ⟨Cells.nil _ _, Nat.le_refl _, Or.inl rfl⟩)) (by intro o h; first | (cases h; done) | (obtain rfl := List.mem_singleton.1 h; exact Or.inl rfl)) ((fun _ _ h => h))⟩, ?_⟩
                conv => whnf
                repeat (first | exact trivial | exact fun _ _ h => h | (refine ⟨by first | exact ⟨rfl, rfl, rfl⟩ | rfl | exact ⟨rfl, rfl⟩ | exact ⟨rfl, fun _ _ => rfl⟩ | exact fun _ _ h => h | (intro _ _ h; cases h; done) | (rw [hr] <;> rfl), ?_⟩; conv => whnf))
                exact ⟨hx, fun _ _ h => h⟩
              · have hlo : ¬ k.term < (a).log.term := of_decide_eq_false hlo
                conv => whnf
                refine ⟨fun hro => ?_, fun hro => ?_⟩
                · have hro : (a).role = 2 := eq_of_beq hro
                  have hr : stepR n k = ⟨a, [], 0⟩ := by rw [hr]; unfold leaderS; rw [if_neg hlo, if_pos hro]
                  conv => whnf
                  intro A1 c1 m1 h1
                  refine ⟨⟨a, A1, c1, [], none, 0, m1⟩, ⟨by rw [hr], by rw [hr] <;> rfl, ⟨.of_sealed h1, h1.le⟩, ⟨Cells.nil _ _, Nat.le_refl _⟩, fun _ h => (by cases h), h1.ext, news_one h1⟩, ?_⟩
                  conv => whnf
                  repeat (first | exact trivial | exact fun _ _ h => h | (refine ⟨by first | exact ⟨rfl, rfl, rfl⟩ | rfl | exact ⟨rfl, rfl⟩ | exact ⟨rfl, fun _ _ => rfl⟩ | exact fun _ _ h => h | (intro _ _ h; cases h; done) | (rw [hr] <;> rfl), ?_⟩; conv => whnf))
                  exact ⟨h1.ext, fun _ _ h => h⟩
                · have hro : ¬ (a).role = 2 := by simpa using hro
                  conv => whnf
                  refine ⟨⟨a, .own, [], m, k.term, k.frm⟩, trivial, ?_⟩
                  conv => whnf
                  repeat (first | exact trivial | (refine ⟨by first | exact ⟨rfl, rfl, rfl⟩ | rfl | exact ⟨rfl, rfl⟩ | exact ⟨rfl, fun _ _ => rfl⟩ | exact fun _ _ h => h | (intro _ _ h; cases h; done), ?_⟩; conv => whnf))
                  intro f hfe
                  have hff : Fine f := by rw [hfe]; exact follow_fine hft (heard_turn ha hh) hlo
                  have hfe : f = followN a k.term k.frm := hfe
                  conv => whnf
                  refine ⟨fun hk3 => ?_, fun hk3 => ?_⟩
                  · have hk3 : k.kind = 3 := eq_of_beq hk3
                    have hr : stepR n k = heardS f k (appendR f k) := by rw [hr]; unfold leaderS; rw [if_neg hlo, if_neg hro, if_pos hk3, hfe]
                    conv => whnf
                    refine ⟨⟨f, [], m, k, D, e⟩, ⟨(hff).fit, ⟨hh.a1, by have := hh.a2; omega, hh.c1, by have := hh.c2; omega⟩, by have := hh.l; omega, ⟨hD, hde⟩, fun _ h => (by cases h), by decide⟩, ?_⟩
                    conv => whnf
                    repeat (first | exact trivial | (refine ⟨by first | exact ⟨rfl, rfl, rfl⟩ | rfl | exact ⟨rfl, rfl⟩ | exact ⟨rfl, fun _ _ => rfl⟩ | exact fun _ _ h => h | (intro _ _ h; cases h; done), ?_⟩; conv => whnf))
                    rintro ⟨n', ys, os'⟩ ⟨hn, hw, hs', hsd⟩
                    conv => whnf
                    refine Or.inr ⟨[3], sc12_24, by kernel_rfl, ?_⟩
                    conv => whnf
                    repeat (first | exact trivial | (refine ⟨by first | exact ⟨rfl, rfl, rfl⟩ | rfl | exact ⟨rfl, rfl⟩ | exact ⟨rfl, fun _ _ => rfl⟩ | exact fun _ _ h => h | (intro _ _ h; cases h; done), ?_⟩; conv => whnf))
                    intro A1 c1 m1 h1
                    conv => whnf
                    intro A2 c2 m2 h2
                    have hx := ext_trans h1.ext h2.ext
                    refine ⟨⟨n', A1, c1, os', A2, c2, m2⟩, ⟨hn.trans (by rw [hr] <;> rfl), (since_nil hs').trans (by rw [hr] <;> rfl), ⟨(wide_cells hw h1).ext h2.ext, Nat.le_trans hw.1 h1.le⟩, ⟨.of_sealed h2, h2.le⟩, (hsd.ext h1.ext).ext h2.ext, hx, news_two h1 hw.1 h2 hsd hs'.fresh fun _ _ h => h⟩, ?_⟩
                    conv => whnf
                    repeat (first | exact trivial | exact fun _ _ h => h | (refine ⟨by first | exact ⟨rfl, rfl, rfl⟩ | rfl | exact ⟨rfl, rfl⟩ | exact ⟨rfl, fun _ _ => rfl⟩ | exact fun _ _ h => h | (intro _ _ h; cases h; done) | (rw [hr] <;> rfl), ?_⟩; conv => whnf))
                    exact ⟨hx, fun _ _ h => h⟩
                  · have hk3 : ¬ k.kind = 3 := by simpa using hk3
                    have hr : stepR n k = heardS f k (installR f k) := by rw [hr]; unfold leaderS; rw [if_neg hlo, if_neg hro, if_neg hk3, hfe]
                    conv => whnf
                    refine ⟨⟨f, [], m, k, D, e⟩, ⟨(hff).fit, ⟨hh.a1, by have := hh.a2; omega, hh.c1, by have := hh.c2; omega⟩, by have := hh.l; omega, ⟨hD, hde⟩, fun _ h => (by cases h), by decide⟩, ?_⟩
                    conv => whnf
                    repeat (first | exact trivial | (refine ⟨by first | exact ⟨rfl, rfl, rfl⟩ | rfl | exact ⟨rfl, rfl⟩ | exact ⟨rfl, fun _ _ => rfl⟩ | exact fun _ _ h => h | (intro _ _ h; cases h; done), ?_⟩; conv => whnf))
                    rintro ⟨n', ys, os'⟩ ⟨hn, hw, hs', hsd⟩
                    conv => whnf
                    refine Or.inr ⟨[3], sc12_24, by kernel_rfl, ?_⟩
                    conv => whnf
                    repeat (first | exact trivial | (refine ⟨by first | exact ⟨rfl, rfl, rfl⟩ | rfl | exact ⟨rfl, rfl⟩ | exact ⟨rfl, fun _ _ => rfl⟩ | exact fun _ _ h => h | (intro _ _ h; cases h; done), ?_⟩; conv => whnf))
                    intro A1 c1 m1 h1
                    conv => whnf
                    intro A2 c2 m2 h2
                    have hx := ext_trans h1.ext h2.ext
                    refine ⟨⟨n', A1, c1, os', A2, c2, m2⟩, ⟨hn.trans (by rw [hr] <;> rfl), (since_nil hs').trans (by rw [hr] <;> rfl), ⟨(wide_cells hw h1).ext h2.ext, Nat.le_trans hw.1 h1.le⟩, ⟨.of_sealed h2, h2.le⟩, (hsd.ext h1.ext).ext h2.ext, hx, news_two h1 hw.1 h2 hsd hs'.fresh fun _ _ h => h⟩, ?_⟩
                    conv => whnf
                    repeat (first | exact trivial | exact fun _ _ h => h | (refine ⟨by first | exact ⟨rfl, rfl, rfl⟩ | rfl | exact ⟨rfl, rfl⟩ | exact ⟨rfl, fun _ _ => rfl⟩ | exact fun _ _ h => h | (intro _ _ h; cases h; done) | (rw [hr] <;> rfl), ?_⟩; conv => whnf))
                    exact ⟨hx, fun _ _ h => h⟩
      · have ht : ¬ k.term > n.log.term := of_decide_eq_false ht
        have ha : turnN n k = n := by unfold turnN; rw [if_neg ht]
        rw [ha] at hr hft
        conv => whnf
        refine ⟨fun hk1 => ?_, fun hk1 => ?_⟩
        · have hk1 : k.kind = 1 := eq_of_beq hk1
          have hr : stepR n k = heardS n k (askR n k) := by rw [hr]; unfold heardK; rw [if_pos hk1]
          conv => whnf
          refine ⟨⟨n, [], m, k, D, e⟩, ⟨(hft).fit, ⟨hh.a1, by have := hh.a2; omega, hh.c1, by have := hh.c2; omega⟩, by have := hh.l; omega, ⟨hD, hde⟩, fun _ h => (by cases h), by decide⟩, ?_⟩
          conv => whnf
          repeat (first | exact trivial | (refine ⟨by first | exact ⟨rfl, rfl, rfl⟩ | rfl | exact ⟨rfl, rfl⟩ | exact ⟨rfl, fun _ _ => rfl⟩ | exact fun _ _ h => h | (intro _ _ h; cases h; done), ?_⟩; conv => whnf))
          rintro ⟨n', ys, os'⟩ ⟨hn, hw, hs', hsd⟩
          conv => whnf
          refine Or.inr ⟨[3], sc12_24, by kernel_rfl, ?_⟩
          conv => whnf
          repeat (first | exact trivial | (refine ⟨by first | exact ⟨rfl, rfl, rfl⟩ | rfl | exact ⟨rfl, rfl⟩ | exact ⟨rfl, fun _ _ => rfl⟩ | exact fun _ _ h => h | (intro _ _ h; cases h; done), ?_⟩; conv => whnf))
          intro A1 c1 m1 h1
          conv => whnf
          intro A2 c2 m2 h2
          have hx := ext_trans h1.ext h2.ext
          refine ⟨⟨n', A1, c1, os', A2, c2, m2⟩, ⟨hn.trans (by rw [hr] <;> rfl), (since_nil hs').trans (by rw [hr] <;> rfl), ⟨(wide_cells hw h1).ext h2.ext, Nat.le_trans hw.1 h1.le⟩, ⟨.of_sealed h2, h2.le⟩, (hsd.ext h1.ext).ext h2.ext, hx, news_two h1 hw.1 h2 hsd hs'.fresh fun _ _ h => h⟩, ?_⟩
          conv => whnf
          repeat (first | exact trivial | exact fun _ _ h => h | (refine ⟨by first | exact ⟨rfl, rfl, rfl⟩ | rfl | exact ⟨rfl, rfl⟩ | exact ⟨rfl, fun _ _ => rfl⟩ | exact fun _ _ h => h | (intro _ _ h; cases h; done) | (rw [hr] <;> rfl), ?_⟩; conv => whnf))
          exact ⟨hx, fun _ _ h => h⟩
        · have hk1 : ¬ k.kind = 1 := by simpa using hk1
          conv => whnf
          refine ⟨fun hk2 => ?_, fun hk2 => ?_⟩
          · have hk2 : k.kind = 2 := eq_of_beq hk2
            have hr : stepR n k = if voteB n k = true then leadS (orN n k) else ⟨n, [], 0⟩ := by rw [hr]; unfold heardK; rw [if_neg hk1, if_pos hk2]
            conv => whnf
            refine Or.inr ⟨[], sc12_19, by kernel_rfl, ?_⟩
            conv => whnf
            refine ⟨fun hv => ?_, fun hv => ?_⟩
            · have hv : voteB n k = true := by rw [← hv]; unfold voteB; simp only [ifand] <;> rfl
              have hr : stepR n k = leadS (orN n k) := by rw [hr, if_pos hv]
              have hor := orV_lt hft (heard_turn ha.symm hh)
              have hfl := hft.l
              have hfc := hft.c2
              conv => whnf
              refine Or.inr ⟨[], sc12_20, by kernel_rfl, ?_⟩
              conv => whnf
              repeat (first | exact trivial | (refine ⟨by first | exact ⟨rfl, rfl, rfl⟩ | rfl | exact ⟨rfl, rfl⟩ | exact ⟨rfl, fun _ _ => rfl⟩ | exact fun _ _ h => h | (intro _ _ h; cases h; done) | exact hh.f1, ?_⟩; conv => whnf))
              cases hy : enoughB (orN n k) with
              | true =>
                have hr : stepR n k = ⟨winN (orN n k), feedAllK (winN (orN n k)), 0⟩ := by rw [hr]; unfold leadS; rw [if_pos hy]
                refine ⟨⟨orN n k, [], m, true⟩, ⟨or_fit hft, by show (n).log.items.length ≤ 299; omega, hfc, lead_mono' hft, ⟨hor.1, by show orV n k < 256; omega⟩, fun _ h => (by cases h), by decide, hy⟩, ?_⟩
                conv => whnf
                repeat (first | exact trivial | (refine ⟨by first | exact ⟨rfl, rfl, rfl⟩ | rfl | exact ⟨rfl, rfl⟩ | exact ⟨rfl, fun _ _ => rfl⟩ | exact fun _ _ h => h | (intro _ _ h; cases h; done), ?_⟩; conv => whnf))
                rintro ⟨n', A2, c2, os2, m2⟩ ⟨hpost, hext⟩ m3 h3 h4
                obtain ⟨hn', hsince, hsaid, hc, hcp, how⟩ := hpost rfl
                conv => whnf
                refine Or.inr ⟨[3], sc12_24, by kernel_rfl, ?_⟩
                conv => whnf
                repeat (first | exact trivial | (refine ⟨by first | exact ⟨rfl, rfl, rfl⟩ | rfl | exact ⟨rfl, rfl⟩ | exact ⟨rfl, fun _ _ => rfl⟩ | exact fun _ _ h => h | (intro _ _ h; cases h; done), ?_⟩; conv => whnf))
                intro A5 c5 m5 h5
                have hx := ext_trans h3 h5.ext
                refine ⟨⟨n', A2, c2, os2, A5, c5, m5⟩, ⟨hn'.trans (by rw [hr] <;> rfl), (since_nil hsince).trans (by rw [hr, hn'] <;> rfl), ⟨(hc.ext h4).ext h5.ext, hcp⟩, ⟨.of_sealed h5, h5.le⟩, (hsaid.ext h4).ext h5.ext, hx, news_st ⟨how.1.ext h4, how.2⟩ h5 (hsaid.ext h4) hsince.fresh h3⟩, ?_⟩
                conv => whnf
                repeat (first | exact trivial | exact fun _ _ h => h | (refine ⟨by first | exact ⟨rfl, rfl, rfl⟩ | rfl | exact ⟨rfl, rfl⟩ | exact ⟨rfl, fun _ _ => rfl⟩ | exact fun _ _ h => h | (intro _ _ h; cases h; done) | (rw [hr] <;> rfl), ?_⟩; conv => whnf))
                exact ⟨hx, fun _ _ h => h⟩
              | false =>
                have hr : stepR n k = ⟨orN n k, [], 0⟩ := by rw [hr]; unfold leadS; rw [if_neg (by rw [hy]; decide)]
                refine ⟨⟨orN n k, [], m, false⟩, ⟨or_fit hft, by show (n).log.items.length ≤ 299; omega, hfc, lead_mono' hft, ⟨hor.1, by show orV n k < 256; omega⟩, fun _ h => (by cases h), by decide, hy⟩, ?_⟩
                conv => whnf
                repeat (first | exact trivial | (refine ⟨by first | exact ⟨rfl, rfl, rfl⟩ | rfl | exact ⟨rfl, rfl⟩ | exact ⟨rfl, fun _ _ => rfl⟩ | exact fun _ _ h => h | (intro _ _ h; cases h; done), ?_⟩; conv => whnf))
                rintro ⟨n', A2, c2, os2, m2⟩ ⟨_, hext⟩ m3 h3 h4
                conv => whnf
                refine Or.inr ⟨[3], sc12_24, by kernel_rfl, ?_⟩
                conv => whnf
                repeat (first | exact trivial | (refine ⟨by first | exact ⟨rfl, rfl, rfl⟩ | rfl | exact ⟨rfl, rfl⟩ | exact ⟨rfl, fun _ _ => rfl⟩ | exact fun _ _ h => h | (intro _ _ h; cases h; done), ?_⟩; conv => whnf))
                intro A1 c1 m1 h1
                conv => whnf
                intro A2 c2 m2 h2
                have hx := ext_trans h3 (ext_trans h1.ext h2.ext)
                refine ⟨⟨orN n k, A1, c1, [], A2, c2, m2⟩, ⟨by rw [hr], by rw [hr] <;> rfl, ⟨(Cells.of_sealed h1).ext h2.ext, h1.le⟩, ⟨.of_sealed h2, h2.le⟩, fun _ h => (by cases h), hx, news_two h1 (Nat.le_refl _) h2 (fun _ h => (by cases h)) (by intro o h; first | (cases h; done) | (obtain rfl := List.mem_singleton.1 h; exact Or.inl rfl)) (h3)⟩, ?_⟩
                conv => whnf
                repeat (first | exact trivial | exact fun _ _ h => h | (refine ⟨by first | exact ⟨rfl, rfl, rfl⟩ | rfl | exact ⟨rfl, rfl⟩ | exact ⟨rfl, fun _ _ => rfl⟩ | exact fun _ _ h => h | (intro _ _ h; cases h; done) | (rw [hr] <;> rfl), ?_⟩; conv => whnf))
                exact ⟨hx, fun _ _ h => h⟩
            · have hv : voteB n k = false := by rw [← hv]; unfold voteB; simp only [ifand] <;> rfl
              have hr : stepR n k = ⟨n, [], 0⟩ := by rw [hr, if_neg (by rw [hv]; decide)]
              conv => whnf
              refine Or.inr ⟨[3], sc12_24, by kernel_rfl, ?_⟩
              conv => whnf
              repeat (first | exact trivial | (refine ⟨by first | exact ⟨rfl, rfl, rfl⟩ | rfl | exact ⟨rfl, rfl⟩ | exact ⟨rfl, fun _ _ => rfl⟩ | exact fun _ _ h => h | (intro _ _ h; cases h; done), ?_⟩; conv => whnf))
              intro A1 c1 m1 h1
              refine ⟨⟨n, A1, c1, [], none, 0, m1⟩, ⟨by rw [hr], by rw [hr] <;> rfl, ⟨.of_sealed h1, h1.le⟩, ⟨Cells.nil _ _, Nat.le_refl _⟩, fun _ h => (by cases h), h1.ext, news_one h1⟩, ?_⟩
              conv => whnf
              repeat (first | exact trivial | exact fun _ _ h => h | (refine ⟨by first | exact ⟨rfl, rfl, rfl⟩ | rfl | exact ⟨rfl, rfl⟩ | exact ⟨rfl, fun _ _ => rfl⟩ | exact fun _ _ h => h | (intro _ _ h; cases h; done) | (rw [hr] <;> rfl), ?_⟩; conv => whnf))
              exact ⟨h1.ext, fun _ _ h => h⟩
          · have hk2 : ¬ k.kind = 2 := by simpa using hk2
            conv => whnf
            refine ⟨fun hk4 => ?_, fun hk4 => ?_⟩
            · have hk4 : k.kind = 4 := eq_of_beq hk4
              have hr : stepR n k = gotS n k := by rw [hr]; unfold heardK; rw [if_neg hk1, if_neg hk2, if_pos hk4]
              conv => whnf
              cases hy : gotY n k with
              | true =>
                have hr : stepR n k = ⟨gotN n k, [feedN (gotN n k) k.frm], 0⟩ := by rw [hr]; unfold gotS; rw [if_pos hy]
                refine ⟨⟨n, [], m, k, D, e, true⟩, ⟨hft.fit, hft.rg, hft.c2, hft.mono, ⟨hh.f1, (heard_turn ha.symm hh).f2, hh.a1, by have := hh.a2; omega⟩, fun _ h => (by cases h), by decide, hy, fun h => (by cases h)⟩, ?_⟩
                conv => whnf
                repeat (first | exact trivial | (refine ⟨by first | exact ⟨rfl, rfl, rfl⟩ | rfl | exact ⟨rfl, rfl⟩ | exact ⟨rfl, fun _ _ => rfl⟩ | exact fun _ _ h => h | (intro _ _ h; cases h; done), ?_⟩; conv => whnf))
                rintro ⟨n', A2, c2, os2, m2⟩ ⟨hn', hpost, hext⟩ m3 h3 h4
                obtain ⟨hsince, hsaid, hc, hcp, how⟩ := hpost rfl
                conv => whnf
                refine Or.inr ⟨[3], sc12_24, by kernel_rfl, ?_⟩
                conv => whnf
                repeat (first | exact trivial | (refine ⟨by first | exact ⟨rfl, rfl, rfl⟩ | rfl | exact ⟨rfl, rfl⟩ | exact ⟨rfl, fun _ _ => rfl⟩ | exact fun _ _ h => h | (intro _ _ h; cases h; done), ?_⟩; conv => whnf))
                intro A5 c5 m5 h5
                have hx := ext_trans h3 h5.ext
                refine ⟨⟨n', A2, c2, os2, A5, c5, m5⟩, ⟨hn'.trans (by rw [hr] <;> rfl), (since_nil hsince).trans (by rw [hr, hn'] <;> rfl), ⟨(hc.ext h4).ext h5.ext, hcp⟩, ⟨.of_sealed h5, h5.le⟩, (hsaid.ext h4).ext h5.ext, hx, news_st ⟨how.1.ext h4, how.2⟩ h5 (hsaid.ext h4) hsince.fresh h3⟩, ?_⟩
                conv => whnf
                repeat (first | exact trivial | exact fun _ _ h => h | (refine ⟨by first | exact ⟨rfl, rfl, rfl⟩ | rfl | exact ⟨rfl, rfl⟩ | exact ⟨rfl, fun _ _ => rfl⟩ | exact fun _ _ h => h | (intro _ _ h; cases h; done) | (rw [hr] <;> rfl), ?_⟩; conv => whnf))
                exact ⟨hx, fun _ _ h => h⟩
              | false =>
                have hr : stepR n k = ⟨gotN n k, [], 0⟩ := by rw [hr]; unfold gotS; rw [if_neg (by rw [hy]; decide)]
                refine ⟨⟨n, [], m, k, D, e, false⟩, ⟨hft.fit, hft.rg, hft.c2, hft.mono, ⟨hh.f1, (heard_turn ha.symm hh).f2, hh.a1, by have := hh.a2; omega⟩, fun _ h => (by cases h), by decide, hy, fun h => (by cases h)⟩, ?_⟩
                conv => whnf
                repeat (first | exact trivial | (refine ⟨by first | exact ⟨rfl, rfl, rfl⟩ | rfl | exact ⟨rfl, rfl⟩ | exact ⟨rfl, fun _ _ => rfl⟩ | exact fun _ _ h => h | (intro _ _ h; cases h; done), ?_⟩; conv => whnf))
                rintro ⟨n', A2, c2, os2, m2⟩ ⟨rfl, _, hext⟩ m3 h3 h4
                conv => whnf
                refine Or.inr ⟨[3], sc12_24, by kernel_rfl, ?_⟩
                conv => whnf
                repeat (first | exact trivial | (refine ⟨by first | exact ⟨rfl, rfl, rfl⟩ | rfl | exact ⟨rfl, rfl⟩ | exact ⟨rfl, fun _ _ => rfl⟩ | exact fun _ _ h => h | (intro _ _ h; cases h; done), ?_⟩; conv => whnf))
                intro A1 c1 m1 h1
                conv => whnf
                intro A2 c2 m2 h2
                have hx := ext_trans h3 (ext_trans h1.ext h2.ext)
                refine ⟨⟨gotN n k, A1, c1, [], A2, c2, m2⟩, ⟨by rw [hr], by rw [hr] <;> rfl, ⟨(Cells.of_sealed h1).ext h2.ext, h1.le⟩, ⟨.of_sealed h2, h2.le⟩, fun _ h => (by cases h), hx, news_two h1 (Nat.le_refl _) h2 (fun _ h => (by cases h)) (by intro o h; first | (cases h; done) | (obtain rfl := List.mem_singleton.1 h; exact Or.inl rfl)) (h3)⟩, ?_⟩
                conv => whnf
                repeat (first | exact trivial | exact fun _ _ h => h | (refine ⟨by first | exact ⟨rfl, rfl, rfl⟩ | rfl | exact ⟨rfl, rfl⟩ | exact ⟨rfl, fun _ _ => rfl⟩ | exact fun _ _ h => h | (intro _ _ h; cases h; done) | (rw [hr] <;> rfl), ?_⟩; conv => whnf))
                exact ⟨hx, fun _ _ h => h⟩
            · have hk4 : ¬ k.kind = 4 := by simpa using hk4
              have hr : stepR n k = leaderS n k := by rw [hr]; unfold heardK; rw [if_neg hk1, if_neg hk2, if_neg hk4]
              conv => whnf
              refine Or.inr ⟨[], sc12_7, by kernel_rfl, ?_⟩
              conv => whnf
              refine ⟨fun hlo => ?_, fun hlo => ?_⟩
              · have hlo : k.term < (n).log.term := of_decide_eq_true hlo
                have hr : stepR n k = ⟨n, [sayN n k.frm (ansM 0 false)], 0⟩ := by rw [hr]; unfold leaderS; rw [if_pos hlo]
                conv => whnf
                refine ⟨⟨n, .own, [], m, k.frm, ansM 0 false, none, 0⟩, ⟨by show 0 < 1000; omega, Cells.nil _ _⟩, ?_⟩
                conv => whnf
                repeat (first | exact trivial | (refine ⟨by first | exact ⟨rfl, rfl, rfl⟩ | rfl | exact ⟨rfl, rfl⟩ | exact ⟨rfl, fun _ _ => rfl⟩ | exact fun _ _ h => h | (intro _ _ h; cases h; done), ?_⟩; conv => whnf))
                rintro b rfl
                conv => whnf
                refine Or.inr ⟨[3], sc12_9, by kernel_rfl, ?_⟩
                conv => whnf
                repeat (first | exact trivial | (refine ⟨by first | exact ⟨rfl, rfl, rfl⟩ | rfl | exact ⟨rfl, rfl⟩ | exact ⟨rfl, fun _ _ => rfl⟩ | exact fun _ _ h => h | (intro _ _ h; cases h; done), ?_⟩; conv => whnf))
                intro A1 c1 m1 h1
                conv => whnf
                intro A2 c2 m2 h2
                have hx := ext_trans (fun _ _ h => h) (ext_trans h1.ext h2.ext)
                refine ⟨⟨n, A1, c1, [⟨sayN n k.frm (ansM 0 false), none, 0⟩], A2, c2, m2⟩, ⟨by rw [hr], by rw [hr] <;> rfl, ⟨(Cells.of_sealed h1).ext h2.ext, h1.le⟩, ⟨.of_sealed h2, h2.le⟩, fun _ h => (by obtain rfl := List.mem_singleton.1 h; exact ⟨Cells.nil _ _, Nat.le_refl _, Or.inl rfl⟩), hx, news_two h1 (Nat.le_refl _) h2 (fun _ h => (by obtain rfl := List.mem_singleton.1 h; exact ⟨Cells.nil _ _, Nat.le_refl _, Or.inl rfl⟩)) (by intro o h; first | (cases h; done) | (obtain rfl := List.mem_singleton.1 h; exact Or.inl rfl)) ((fun _ _ h => h))⟩, ?_⟩
                conv => whnf
                repeat (first | exact trivial | exact fun _ _ h => h | (refine ⟨by first | exact ⟨rfl, rfl, rfl⟩ | rfl | exact ⟨rfl, rfl⟩ | exact ⟨rfl, fun _ _ => rfl⟩ | exact fun _ _ h => h | (intro _ _ h; cases h; done) | (rw [hr] <;> rfl), ?_⟩; conv => whnf))
                exact ⟨hx, fun _ _ h => h⟩
              · have hlo : ¬ k.term < (n).log.term := of_decide_eq_false hlo
                conv => whnf
                refine ⟨fun hro => ?_, fun hro => ?_⟩
                · have hro : (n).role = 2 := eq_of_beq hro
                  have hr : stepR n k = ⟨n, [], 0⟩ := by rw [hr]; unfold leaderS; rw [if_neg hlo, if_pos hro]
                  conv => whnf
                  intro A1 c1 m1 h1
                  refine ⟨⟨n, A1, c1, [], none, 0, m1⟩, ⟨by rw [hr], by rw [hr] <;> rfl, ⟨.of_sealed h1, h1.le⟩, ⟨Cells.nil _ _, Nat.le_refl _⟩, fun _ h => (by cases h), h1.ext, news_one h1⟩, ?_⟩
                  conv => whnf
                  repeat (first | exact trivial | exact fun _ _ h => h | (refine ⟨by first | exact ⟨rfl, rfl, rfl⟩ | rfl | exact ⟨rfl, rfl⟩ | exact ⟨rfl, fun _ _ => rfl⟩ | exact fun _ _ h => h | (intro _ _ h; cases h; done) | (rw [hr] <;> rfl), ?_⟩; conv => whnf))
                  exact ⟨h1.ext, fun _ _ h => h⟩
                · have hro : ¬ (n).role = 2 := by simpa using hro
                  conv => whnf
                  refine ⟨⟨n, .own, [], m, k.term, k.frm⟩, trivial, ?_⟩
                  conv => whnf
                  repeat (first | exact trivial | (refine ⟨by first | exact ⟨rfl, rfl, rfl⟩ | rfl | exact ⟨rfl, rfl⟩ | exact ⟨rfl, fun _ _ => rfl⟩ | exact fun _ _ h => h | (intro _ _ h; cases h; done), ?_⟩; conv => whnf))
                  intro f hfe
                  have hff : Fine f := by rw [hfe]; exact follow_fine hft (heard_turn ha.symm hh) hlo
                  have hfe : f = followN n k.term k.frm := hfe
                  conv => whnf
                  refine ⟨fun hk3 => ?_, fun hk3 => ?_⟩
                  · have hk3 : k.kind = 3 := eq_of_beq hk3
                    have hr : stepR n k = heardS f k (appendR f k) := by rw [hr]; unfold leaderS; rw [if_neg hlo, if_neg hro, if_pos hk3, hfe]
                    conv => whnf
                    refine ⟨⟨f, [], m, k, D, e⟩, ⟨(hff).fit, ⟨hh.a1, by have := hh.a2; omega, hh.c1, by have := hh.c2; omega⟩, by have := hh.l; omega, ⟨hD, hde⟩, fun _ h => (by cases h), by decide⟩, ?_⟩
                    conv => whnf
                    repeat (first | exact trivial | (refine ⟨by first | exact ⟨rfl, rfl, rfl⟩ | rfl | exact ⟨rfl, rfl⟩ | exact ⟨rfl, fun _ _ => rfl⟩ | exact fun _ _ h => h | (intro _ _ h; cases h; done), ?_⟩; conv => whnf))
                    rintro ⟨n', ys, os'⟩ ⟨hn, hw, hs', hsd⟩
                    conv => whnf
                    refine Or.inr ⟨[3], sc12_24, by kernel_rfl, ?_⟩
                    conv => whnf
                    repeat (first | exact trivial | (refine ⟨by first | exact ⟨rfl, rfl, rfl⟩ | rfl | exact ⟨rfl, rfl⟩ | exact ⟨rfl, fun _ _ => rfl⟩ | exact fun _ _ h => h | (intro _ _ h; cases h; done), ?_⟩; conv => whnf))
                    intro A1 c1 m1 h1
                    conv => whnf
                    intro A2 c2 m2 h2
                    have hx := ext_trans h1.ext h2.ext
                    refine ⟨⟨n', A1, c1, os', A2, c2, m2⟩, ⟨hn.trans (by rw [hr] <;> rfl), (since_nil hs').trans (by rw [hr] <;> rfl), ⟨(wide_cells hw h1).ext h2.ext, Nat.le_trans hw.1 h1.le⟩, ⟨.of_sealed h2, h2.le⟩, (hsd.ext h1.ext).ext h2.ext, hx, news_two h1 hw.1 h2 hsd hs'.fresh fun _ _ h => h⟩, ?_⟩
                    conv => whnf
                    repeat (first | exact trivial | exact fun _ _ h => h | (refine ⟨by first | exact ⟨rfl, rfl, rfl⟩ | rfl | exact ⟨rfl, rfl⟩ | exact ⟨rfl, fun _ _ => rfl⟩ | exact fun _ _ h => h | (intro _ _ h; cases h; done) | (rw [hr] <;> rfl), ?_⟩; conv => whnf))
                    exact ⟨hx, fun _ _ h => h⟩
                  · have hk3 : ¬ k.kind = 3 := by simpa using hk3
                    have hr : stepR n k = heardS f k (installR f k) := by rw [hr]; unfold leaderS; rw [if_neg hlo, if_neg hro, if_neg hk3, hfe]
                    conv => whnf
                    refine ⟨⟨f, [], m, k, D, e⟩, ⟨(hff).fit, ⟨hh.a1, by have := hh.a2; omega, hh.c1, by have := hh.c2; omega⟩, by have := hh.l; omega, ⟨hD, hde⟩, fun _ h => (by cases h), by decide⟩, ?_⟩
                    conv => whnf
                    repeat (first | exact trivial | (refine ⟨by first | exact ⟨rfl, rfl, rfl⟩ | rfl | exact ⟨rfl, rfl⟩ | exact ⟨rfl, fun _ _ => rfl⟩ | exact fun _ _ h => h | (intro _ _ h; cases h; done), ?_⟩; conv => whnf))
                    rintro ⟨n', ys, os'⟩ ⟨hn, hw, hs', hsd⟩
                    conv => whnf
                    refine Or.inr ⟨[3], sc12_24, by kernel_rfl, ?_⟩
                    conv => whnf
                    repeat (first | exact trivial | (refine ⟨by first | exact ⟨rfl, rfl, rfl⟩ | rfl | exact ⟨rfl, rfl⟩ | exact ⟨rfl, fun _ _ => rfl⟩ | exact fun _ _ h => h | (intro _ _ h; cases h; done), ?_⟩; conv => whnf))
                    intro A1 c1 m1 h1
                    conv => whnf
                    intro A2 c2 m2 h2
                    have hx := ext_trans h1.ext h2.ext
                    refine ⟨⟨n', A1, c1, os', A2, c2, m2⟩, ⟨hn.trans (by rw [hr] <;> rfl), (since_nil hs').trans (by rw [hr] <;> rfl), ⟨(wide_cells hw h1).ext h2.ext, Nat.le_trans hw.1 h1.le⟩, ⟨.of_sealed h2, h2.le⟩, (hsd.ext h1.ext).ext h2.ext, hx, news_two h1 hw.1 h2 hsd hs'.fresh fun _ _ h => h⟩, ?_⟩
                    conv => whnf
                    repeat (first | exact trivial | exact fun _ _ h => h | (refine ⟨by first | exact ⟨rfl, rfl, rfl⟩ | rfl | exact ⟨rfl, rfl⟩ | exact ⟨rfl, fun _ _ => rfl⟩ | exact fun _ _ h => h | (intro _ _ h; cases h; done) | (rw [hr] <;> rfl), ?_⟩; conv => whnf))
                    exact ⟨hx, fun _ _ h => h⟩
end Go.Proofs.Ytjpjiniclibgkaa.Sx

namespace Go.Proofs.Ytjpjiniclibgkaa.Sx
open Go

def S14 : List (Nat × Spec) := (12, stepSpec) :: S13
theorem S14_all : ∀ f s, findS S14 f = some s → SpecOk Try.prog f s := CP_cons S13_all step_ok
theorem S14_ok : CPOk Try.prog (CPs S14) := CPs_ok S14_all
theorem ask_eq {a : Node} {k : Msg} : (if (if (k.term == a.log.term) = true then (if decide (k.lastTerm > (lastN a.log).2) = true then true else if (k.lastTerm == (lastN a.log).2) = true then decide (k.last ≥ (lastN a.log).1) else false) else false) = true then (if (a.log.vote == -1) = true then true else a.log.vote == k.frm) else false) = askB a k := by
  unfold askB newerB
  simp only [ifand, ifor]
  generalize (k.term == a.log.term) = t
  generalize (a.log.vote == -1 || a.log.vote == k.frm) = v
  generalize (decide (k.lastTerm > (lastN a.log).2) || ((k.lastTerm == (lastN a.log).2) && decide (k.last ≥ (lastN a.log).1))) = w
  cases t <;> cases v <;> cases w <;> rfl
theorem turn_term {n : Node} {k : Msg} : k.term ≤ (turnN n k).log.term := by
  unfold turnN
  split
  · rename_i h; show k.term ≤ (if k.term > n.log.term then { n.log with term := k.term, vote := -1 } else n.log).term; rw [if_pos h]; exact Int.le_refl _
  · rename_i h; omega
set_option maxRecDepth 100000 in
set_option maxHeartbeats 6400000 in
theorem refStep_ok : SpecOk Try.prog 13 stepSpec := by
  refine spec_of_exec (fn := Try.f13) (c := Try.f13.body.getD .skip) (d := 0) (lv := ([0, 1, 2, 3, 4, 5, 6, 7, 8, 9, 10, 11, 12, 21, 30, 45, 46, 97, 111, 125, 142, 152, 156, 160, 179, 192])) (DP := DPx T1 (CPs S14) ([0, 1, 2, 3, 4, 5, 6, 7, 8, 9, 10, 11, 12, 21, 30, 45, 46, 97, 111, 125, 142, 152, 156, 160, 179, 192])) T1_ok S14_ok (fun B => DPx_ok T1_ok ord S14_ok B) stepSpec (by rfl) (by rfl) (by rfl) (fun _ => Nat.le_of_ble_eq_true (by kernel_rfl)) ?_
  rintro ⟨n, A, c, k, D, e, m⟩ ⟨⟨hM, hcap, hl⟩, ⟨hD, hde, hkl⟩⟩
  conv => whnf
  refine ⟨⟨n, A, c, m⟩, ⟨hM, hl⟩, ?_⟩
  conv => whnf
  repeat (first | exact trivial | (refine ⟨by first | exact ⟨rfl, rfl, rfl⟩ | rfl | exact ⟨rfl, rfl⟩ | exact ⟨rfl, fun _ _ => rfl⟩ | exact fun _ _ h => h | (intro _ _ h; cases h; done), ?_⟩; conv => whnf))
  intro _ _
  conv => whnf
  refine ⟨fun hg => ?_, fun hg => ?_⟩
  · have hg : goodB n = false := by simpa using hg
    have hr : stepR n k = ⟨zeroN, [], 1⟩ := by unfold stepR; rw [if_neg (fun h => by rw [hg] at h; cases h.1)]
    conv => whnf
    refine ⟨fun _ => ?_, fun h => (by cases h)⟩
    conv => whnf
    conv => whnf
    refine ⟨⟨zeroN, none, 0, [], none, 0, m⟩, ⟨by rw [hr], by rw [hr] <;> rfl, ⟨Cells.nil _ _, Nat.le_refl _⟩, ⟨Cells.nil _ _, Nat.le_refl _⟩, fun _ h => (by cases h), fun _ _ h => h, news_err⟩, ?_⟩
    conv => whnf
    repeat (first | exact trivial | exact fun _ _ h => h | (refine ⟨by first | exact ⟨rfl, rfl, rfl⟩ | rfl | exact ⟨rfl, rfl⟩ | exact ⟨rfl, fun _ _ => rfl⟩ | exact fun _ _ h => h | (intro _ _ h; cases h; done) | (rw [hr] <;> rfl) | (rw [hr]; done), ?_⟩; conv => whnf))
  · have hg : goodB n = true := by simpa using hg
    have hfine := fine_iff.1 hg
    conv => whnf
    refine ⟨⟨n, A, c, k, D, e, m⟩, ⟨hD, hkl⟩, ?_⟩
    conv => whnf
    repeat (first | exact trivial | (refine ⟨by first | exact ⟨rfl, rfl, rfl⟩ | rfl | exact ⟨rfl, rfl⟩ | exact ⟨rfl, fun _ _ => rfl⟩ | exact fun _ _ h => h | (intro _ _ h; cases h; done), ?_⟩; conv => whnf))
    intro _ _
    conv => whnf
    refine ⟨fun hs => ?_, fun hs => ?_⟩
    · have hs : soundB n k = false := by simpa using hs
      have hr : stepR n k = ⟨zeroN, [], 1⟩ := by unfold stepR; rw [if_neg (fun h => by rw [hs] at h; cases h.2)]
      conv => whnf
      refine ⟨⟨zeroN, none, 0, [], none, 0, m⟩, ⟨by rw [hr], by rw [hr] <;> rfl, ⟨Cells.nil _ _, Nat.le_refl _⟩, ⟨Cells.nil _ _, Nat.le_refl _⟩, fun _ h => (by cases h), fun _ _ h => h, news_err⟩, ?_⟩
      conv => whnf
      repeat (first | exact trivial | exact fun _ _ h => h | (refine ⟨by first | exact ⟨rfl, rfl, rfl⟩ | rfl | exact ⟨rfl, rfl⟩ | exact ⟨rfl, fun _ _ => rfl⟩ | exact fun _ _ h => h | (intro _ _ h; cases h; done) | (rw [hr] <;> rfl) | (rw [hr]; done), ?_⟩; conv => whnf))
    · have hs : soundB n k = true := by simpa using hs
      have hh := heard_iff.1 hs
      have hr : stepR n k = heardK (turnN n k) k := by unfold stepR; rw [if_pos ⟨hg, hs⟩]
      have hft := turn_fine hfine hh
      have hlen := hfine.l
      conv => whnf
      refine ⟨⟨n, A, c, m⟩, ⟨hM, by show n.log.items.length ≤ 2 ^ 40; omega⟩, ?_⟩
      conv => whnf
      repeat (first | exact trivial | (refine ⟨by first | exact ⟨rfl, rfl, rfl⟩ | rfl | exact ⟨rfl, rfl⟩ | exact ⟨rfl, fun _ _ => rfl⟩ | exact fun _ _ h => h | (intro _ _ h; cases h; done), ?_⟩; conv => whnf))
      intro _ _
      conv => whnf
      refine ⟨fun ht => ?_, fun ht => ?_⟩
      · have ht : k.term > n.log.term := of_decide_eq_true ht
        conv => whnf
        refine ⟨⟨n, .own, [], m, k.term, -1⟩, trivial, ?_⟩
        conv => whnf
        repeat (first | exact trivial | (refine ⟨by first | exact ⟨rfl, rfl, rfl⟩ | rfl | exact ⟨rfl, rfl⟩ | exact ⟨rfl, fun _ _ => rfl⟩ | exact fun _ _ h => h | (intro _ _ h; cases h; done), ?_⟩; conv => whnf))
        intro a ha
        have ha : a = turnN n k := by rw [ha]; unfold turnN; rw [if_pos ht]
        rw [← ha] at hr hft
        conv => whnf
        have hta : k.term ≤ (a).log.term := by have := turn_term (n := n) (k := k); rw [← ha] at this; exact this
        refine Or.inr ⟨[], sc13_6, by kernel_rfl, ?_⟩
        conv => whnf
        refine ⟨fun hk1 => ?_, fun hk1 => ?_⟩
        · have hk1 : k.kind = 1 := eq_of_beq hk1
          have hr : stepR n k = heardS a k (askR a k) := by rw [hr]; unfold heardK; rw [if_pos hk1]
          conv => whnf
          intro A6 c6 m6 h6
          refine ⟨⟨(a).log, A6, c6, m6⟩, ⟨.of_sealed h6, by show (a).log.items.length < 2 ^ 62; have := hft.l; omega⟩, ?_⟩
          conv => whnf
          repeat (first | exact trivial | (refine ⟨by first | exact ⟨rfl, rfl, rfl⟩ | rfl | exact ⟨rfl, rfl⟩ | exact ⟨rfl, fun _ _ => rfl⟩ | exact fun _ _ h => h | (intro _ _ h; cases h; done), ?_⟩; conv => whnf))
          intro _ _
          conv => whnf
          refine Or.inr ⟨[], sc13_11, by kernel_rfl, ?_⟩
          conv => whnf
          refine ⟨fun hy => ?_, fun hy => ?_⟩
          · have hb : askB a k = true := ask_eq.symm.trans hy
            have hr : stepR n k = ⟨{ a with log := { (a).log with vote := k.frm } }, [sayN a k.frm (voteM true)], 0⟩ := by rw [hr]; unfold heardS askR askN repl1; rw [hb]
            conv => whnf
            refine ⟨⟨{ a with log := { (a).log with vote := k.frm } }, .own, [], m, k.frm, voteM true, none, 0⟩, ⟨by show 0 < 1000; omega, Cells.nil _ _⟩, ?_⟩
            conv => whnf
            repeat (first | exact trivial | (refine ⟨by first | exact ⟨rfl, rfl, rfl⟩ | rfl | exact ⟨rfl, rfl⟩ | exact ⟨rfl, fun _ _ => rfl⟩ | exact fun _ _ h => h | (intro _ _ h; cases h; done) | exact hy, ?_⟩; conv => whnf))
            rintro b rfl
            conv => whnf
            refine Or.inr ⟨[3], sc13_33, by kernel_rfl, ?_⟩
            conv => whnf
            repeat (first | exact trivial | (refine ⟨by first | exact ⟨rfl, rfl, rfl⟩ | rfl | exact ⟨rfl, rfl⟩ | exact ⟨rfl, fun _ _ => rfl⟩ | exact fun _ _ h => h | (intro _ _ h; cases h; done), ?_⟩; conv => whnf))
            intro A1 c1 m1 h1
            conv => whnf
            intro A2 c2 m2 h2
            have hx := ext_trans (fun _ _ h => h) (ext_trans h1.ext h2.ext)
            refine ⟨⟨{ a with log := { (a).log with vote := k.frm } }, A1, c1, [⟨sayN a k.frm (voteM true), none, 0⟩], A2, c2, m2⟩, ⟨by rw [hr], by rw [hr] <;> rfl, ⟨(Cells.of_sealed h1).ext h2.ext, h1.le⟩, ⟨.of_sealed h2, h2.le⟩, fun _ h => (by obtain rfl := List.mem_singleton.1 h; exact ⟨Cells.nil _ _, Nat.le_refl _, Or.inl rfl⟩), hx, news_two h1 (Nat.le_refl _) h2 (fun _ h => (by obtain rfl := List.mem_singleton.1 h; exact ⟨Cells.nil _ _, Nat.le_refl _, Or.inl rfl⟩)) (by intro o h; first | (cases h; done) | (obtain rfl := List.mem_singleton.1 h; exact Or.inl rfl)) ((fun _ _ h => h))⟩, ?_⟩
            conv => whnf
            repeat (first | exact trivial | exact fun _ _ h => h | (refine ⟨by first | exact ⟨rfl, rfl, rfl⟩ | rfl | exact ⟨rfl, rfl⟩ | exact ⟨rfl, fun _ _ => rfl⟩ | exact fun _ _ h => h | (intro _ _ h; cases h; done) | (rw [hr] <;> rfl), ?_⟩; conv => whnf))
            exact ⟨hx, fun _ _ h => h⟩
          · have hb : askB a k = false := ask_eq.symm.trans hy
            have hr : stepR n k = ⟨a, [sayN a k.frm (voteM false)], 0⟩ := by rw [hr]; unfold heardS askR askN repl1; rw [hb]
            conv => whnf
            refine ⟨⟨a, .own, [], m, k.frm, voteM false, none, 0⟩, ⟨by show 0 < 1000; omega, Cells.nil _ _⟩, ?_⟩
            conv => whnf
            repeat (first | exact trivial | (refine ⟨by first | exact ⟨rfl, rfl, rfl⟩ | rfl | exact ⟨rfl, rfl⟩ | exact ⟨rfl, fun _ _ => rfl⟩ | exact fun _ _ h => h | (intro _ _ h; cases h; done) | exact hy, ?_⟩; conv => whnf))
            rintro b rfl
            conv => whnf
            refine Or.inr ⟨[3], sc13_33, by kernel_rfl, ?_⟩
            conv => whnf
            repeat (first | exact trivial | (refine ⟨by first | exact ⟨rfl, rfl, rfl⟩ | rfl | exact ⟨rfl, rfl⟩ | exact ⟨rfl, fun _ _ => rfl⟩ | exact fun _ _ h => h | (intro _ _ h; cases h; done), ?_⟩; conv => whnf))
            intro A1 c1 m1 h1
            conv => whnf
            intro A2 c2 m2 h2
            have hx := ext_trans (fun _ _ h => h) (ext_trans h1.ext h2.ext)
            refine ⟨⟨a, A1, c1, [⟨sayN a k.frm (voteM false), none, 0⟩], A2, c2, m2⟩, ⟨by rw [hr], by rw [hr] <;> rfl, ⟨(Cells.of_sealed h1).ext h2.ext, h1.le⟩, ⟨.of_sealed h2, h2.le⟩, fun _ h => (by obtain rfl := List.mem_singleton.1 h; exact ⟨Cells.nil _ _, Nat.le_refl _, Or.inl rfl⟩), hx, news_two h1 (Nat.le_refl _) h2 (fun _ h => (by obtain rfl := List.mem_singleton.1 h; exact ⟨Cells.nil _ _, Nat.le_refl _, Or.inl rfl⟩)) (by intro o h; first | (cases h; done) | (obtain rfl := List.mem_singleton.1 h; exact Or.inl rfl)) ((fun _ _ h => h))⟩, ?_⟩
            conv => whnf
            repeat (first | exact trivial | exact fun _ _ h => h | (refine ⟨by first | exact ⟨rfl, rfl, rfl⟩ | rfl | exact ⟨rfl, rfl⟩ | exact ⟨rfl, fun _ _ => rfl⟩ | exact fun _ _ h => h | (intro _ _ h; cases h; done) | (rw [hr] <;> rfl), ?_⟩; conv => whnf))
            exact ⟨hx, fun _ _ h => h⟩
        · have hk1 : ¬ k.kind = 1 := by simpa using hk1
          conv => whnf
          refine ⟨fun hk2 => ?_, fun hk2 => ?_⟩
          · have hk2 : k.kind = 2 := eq_of_beq hk2
            have hr : stepR n k = if voteB a k = true then leadS (orN a k) else ⟨a, [], 0⟩ := by rw [hr]; unfold heardK; rw [if_neg hk1, if_pos hk2]
            conv => whnf
            refine ⟨fun hv => ?_, fun hv => ?_⟩
            · have hv : voteB a k = true := by rw [← hv]; unfold voteB; simp only [ifand] <;> rfl
              have hr : stepR n k = leadS (orN a k) := by rw [hr, if_pos hv]
              have hor := orV_lt hft (heard_turn ha hh)
              have hfl := hft.l
              have hfc := hft.c2
              have hfs := hft.s2
              have hf1 := hh.f1
              have hf2 := (heard_turn ha hh).f2
              have hwf : IntKind.u64.wrap k.frm = k.frm := by rw [wrapu]; omega
              conv => whnf
              refine Or.inr ⟨[], sc13_17, by kernel_rfl, ?_⟩
              conv => whnf
              conv in (occs := *) (IntKind.wrap IntKind.u64 _) => all_goals rw [hwf]
              repeat (first | exact trivial | (refine ⟨by first | exact ⟨rfl, rfl, rfl⟩ | rfl | exact ⟨rfl, rfl⟩ | exact ⟨rfl, fun _ _ => rfl⟩ | exact fun _ _ h => h | (intro _ _ h; cases h; done) | exact hh.f1, ?_⟩; conv => whnf))
              cases hy : enoughB (orN a k) with
              | true =>
                have hr : stepR n k = ⟨winN (orN a k), feedAllK (winN (orN a k)), 0⟩ := by rw [hr]; unfold leadS; rw [if_pos hy]
                refine ⟨⟨orN a k, [], m, true⟩, ⟨or_fit hft, by show (a).log.items.length ≤ 299; omega, hfc, lead_mono' hft, ⟨hor.1, by show orV a k < 256; omega⟩, fun _ h => (by cases h), by decide, hy⟩, ?_⟩
                conv => whnf
                repeat (first | exact trivial | (refine ⟨by first | exact ⟨rfl, rfl, rfl⟩ | rfl | exact ⟨rfl, rfl⟩ | exact ⟨rfl, fun _ _ => rfl⟩ | exact fun _ _ h => h | (intro _ _ h; cases h; done), ?_⟩; conv => whnf))
                rintro ⟨n', A2, c2, os2, m2⟩ ⟨hpost, hext⟩ m3 h3 h4
                obtain ⟨hn', hsince, hsaid, hc, hcp, how⟩ := hpost rfl
                conv => whnf
                refine Or.inr ⟨[3], sc13_33, by kernel_rfl, ?_⟩
                conv => whnf
                repeat (first | exact trivial | (refine ⟨by first | exact ⟨rfl, rfl, rfl⟩ | rfl | exact ⟨rfl, rfl⟩ | exact ⟨rfl, fun _ _ => rfl⟩ | exact fun _ _ h => h | (intro _ _ h; cases h; done), ?_⟩; conv => whnf))
                intro A5 c5 m5 h5
                have hx := ext_trans h3 h5.ext
                refine ⟨⟨n', A2, c2, os2, A5, c5, m5⟩, ⟨hn'.trans (by rw [hr] <;> rfl), (since_nil hsince).trans (by rw [hr, hn'] <;> rfl), ⟨(hc.ext h4).ext h5.ext, hcp⟩, ⟨.of_sealed h5, h5.le⟩, (hsaid.ext h4).ext h5.ext, hx, news_st ⟨how.1.ext h4, how.2⟩ h5 (hsaid.ext h4) hsince.fresh h3⟩, ?_⟩
                conv => whnf
                repeat (first | exact trivial | exact fun _ _ h => h | (refine ⟨by first | exact ⟨rfl, rfl, rfl⟩ | rfl | exact ⟨rfl, rfl⟩ | exact ⟨rfl, fun _ _ => rfl⟩ | exact fun _ _ h => h | (intro _ _ h; cases h; done) | (rw [hr] <;> rfl), ?_⟩; conv => whnf))
                exact ⟨hx, fun _ _ h => h⟩
              | false =>
                have hr : stepR n k = ⟨orN a k, [], 0⟩ := by rw [hr]; unfold leadS; rw [if_neg (by rw [hy]; decide)]
                refine ⟨⟨orN a k, [], m, false⟩, ⟨or_fit hft, by show (a).log.items.length ≤ 299; omega, hfc, lead_mono' hft, ⟨hor.1, by show orV a k < 256; omega⟩, fun _ h => (by cases h), by decide, hy⟩, ?_⟩
                conv => whnf
                repeat (first | exact trivial | (refine ⟨by first | exact ⟨rfl, rfl, rfl⟩ | rfl | exact ⟨rfl, rfl⟩ | exact ⟨rfl, fun _ _ => rfl⟩ | exact fun _ _ h => h | (intro _ _ h; cases h; done), ?_⟩; conv => whnf))
                rintro ⟨n', A2, c2, os2, m2⟩ ⟨_, hext⟩ m3 h3 h4
                conv => whnf
                refine Or.inr ⟨[3], sc13_33, by kernel_rfl, ?_⟩
                conv => whnf
                repeat (first | exact trivial | (refine ⟨by first | exact ⟨rfl, rfl, rfl⟩ | rfl | exact ⟨rfl, rfl⟩ | exact ⟨rfl, fun _ _ => rfl⟩ | exact fun _ _ h => h | (intro _ _ h; cases h; done), ?_⟩; conv => whnf))
                intro A1 c1 m1 h1
                conv => whnf
                intro A2 c2 m2 h2
                have hx := ext_trans h3 (ext_trans h1.ext h2.ext)
                refine ⟨⟨orN a k, A1, c1, [], A2, c2, m2⟩, ⟨by rw [hr], by rw [hr] <;> rfl, ⟨(Cells.of_sealed h1).ext h2.ext, h1.le⟩, ⟨.of_sealed h2, h2.le⟩, fun _ h => (by cases h), hx, news_two h1 (Nat.le_refl _) h2 (fun _ h => (by cases h)) (by intro o h; first | (cases h; done) | (obtain rfl := List.mem_singleton.1 h; exact Or.inl rfl)) (h3)⟩, ?_⟩
                conv => whnf
                repeat (first | exact trivial | exact fun _ _ h => h | (refine ⟨by first | exact ⟨rfl, rfl, rfl⟩ | rfl | exact ⟨rfl, rfl⟩ | exact ⟨rfl, fun _ _ => rfl⟩ | exact fun _ _ h => h | (intro _ _ h; cases h; done) | (rw [hr] <;> rfl), ?_⟩; conv => whnf))
                exact ⟨hx, fun _ _ h => h⟩
            · have hv : voteB a k = false := by rw [← hv]; unfold voteB; simp only [ifand] <;> rfl
              have hr : stepR n k = ⟨a, [], 0⟩ := by rw [hr, if_neg (by rw [hv]; decide)]
              conv => whnf
              refine Or.inr ⟨[3], sc13_33, by kernel_rfl, ?_⟩
              conv => whnf
              repeat (first | exact trivial | (refine ⟨by first | exact ⟨rfl, rfl, rfl⟩ | rfl | exact ⟨rfl, rfl⟩ | exact ⟨rfl, fun _ _ => rfl⟩ | exact fun _ _ h => h | (intro _ _ h; cases h; done), ?_⟩; conv => whnf))
              intro A1 c1 m1 h1
              conv => whnf
              intro A2 c2 m2 h2
              have hx := ext_trans (fun _ _ h => h) (ext_trans h1.ext h2.ext)
              refine ⟨⟨a, A1, c1, [], A2, c2, m2⟩, ⟨by rw [hr], by rw [hr] <;> rfl, ⟨(Cells.of_sealed h1).ext h2.ext, h1.le⟩, ⟨.of_sealed h2, h2.le⟩, fun _ h => (by cases h), hx, news_two h1 (Nat.le_refl _) h2 (fun _ h => (by cases h)) (by intro o h; first | (cases h; done) | (obtain rfl := List.mem_singleton.1 h; exact Or.inl rfl)) ((fun _ _ h => h))⟩, ?_⟩
              conv => whnf
              repeat (first | exact trivial | exact fun _ _ h => h | (refine ⟨by first | exact ⟨rfl, rfl, rfl⟩ | rfl | exact ⟨rfl, rfl⟩ | exact ⟨rfl, fun _ _ => rfl⟩ | exact fun _ _ h => h | (intro _ _ h; cases h; done) | (rw [hr] <;> rfl), ?_⟩; conv => whnf))
              exact ⟨hx, fun _ _ h => h⟩
          · have hk2 : ¬ k.kind = 2 := by simpa using hk2
            conv => whnf
            refine ⟨fun hk4 => ?_, fun hk4 => ?_⟩
            · have hk4 : k.kind = 4 := eq_of_beq hk4
              have hr : stepR n k = gotS a k := by rw [hr]; unfold heardK; rw [if_neg hk1, if_neg hk2, if_pos hk4]
              conv => whnf
              refine ⟨fun hle => ?_, fun hle => ?_⟩
              · have hle : isLead a k = true := by rw [← hle]; unfold isLead; simp only [ifand] <;> rfl
                conv => whnf
                cases hy : gotY a k with
                | true =>
                  have hr : stepR n k = ⟨gotN a k, [feedN (gotN a k) k.frm], 0⟩ := by rw [hr]; unfold gotS; rw [if_pos hy]
                  refine ⟨⟨a, [], m, k, D, e, true⟩, ⟨hft.fit, hft.rg, hft.c2, hft.mono, ⟨hh.f1, (heard_turn ha hh).f2, hh.a1, by have := hh.a2; omega⟩, fun _ h => (by cases h), by decide, hy, fun _ => hle⟩, ?_⟩
                  conv => whnf
                  repeat (first | exact trivial | (refine ⟨by first | exact ⟨rfl, rfl, rfl⟩ | rfl | exact ⟨rfl, rfl⟩ | exact ⟨rfl, fun _ _ => rfl⟩ | exact fun _ _ h => h | (intro _ _ h; cases h; done), ?_⟩; conv => whnf))
                  rintro ⟨n', A2, c2, os2, m2⟩ ⟨hn', hpost, hext⟩ m3 h3 h4
                  obtain ⟨hsince, hsaid, hc, hcp, how⟩ := hpost rfl
                  conv => whnf
                  refine Or.inr ⟨[3], sc13_33, by kernel_rfl, ?_⟩
                  conv => whnf
                  repeat (first | exact trivial | (refine ⟨by first | exact ⟨rfl, rfl, rfl⟩ | rfl | exact ⟨rfl, rfl⟩ | exact ⟨rfl, fun _ _ => rfl⟩ | exact fun _ _ h => h | (intro _ _ h; cases h; done), ?_⟩; conv => whnf))
                  intro A5 c5 m5 h5
                  have hx := ext_trans h3 h5.ext
                  refine ⟨⟨n', A2, c2, os2, A5, c5, m5⟩, ⟨hn'.trans (by rw [hr] <;> rfl), (since_nil hsince).trans (by rw [hr, hn'] <;> rfl), ⟨(hc.ext h4).ext h5.ext, hcp⟩, ⟨.of_sealed h5, h5.le⟩, (hsaid.ext h4).ext h5.ext, hx, news_st ⟨how.1.ext h4, how.2⟩ h5 (hsaid.ext h4) hsince.fresh h3⟩, ?_⟩
                  conv => whnf
                  repeat (first | exact trivial | exact fun _ _ h => h | (refine ⟨by first | exact ⟨rfl, rfl, rfl⟩ | rfl | exact ⟨rfl, rfl⟩ | exact ⟨rfl, fun _ _ => rfl⟩ | exact fun _ _ h => h | (intro _ _ h; cases h; done) | (rw [hr] <;> rfl), ?_⟩; conv => whnf))
                  exact ⟨hx, fun _ _ h => h⟩
                | false =>
                  have hr : stepR n k = ⟨gotN a k, [], 0⟩ := by rw [hr]; unfold gotS; rw [if_neg (by rw [hy]; decide)]
                  refine ⟨⟨a, [], m, k, D, e, false⟩, ⟨hft.fit, hft.rg, hft.c2, hft.mono, ⟨hh.f1, (heard_turn ha hh).f2, hh.a1, by have := hh.a2; omega⟩, fun _ h => (by cases h), by decide, hy, fun _ => hle⟩, ?_⟩
                  conv => whnf
                  repeat (first | exact trivial | (refine ⟨by first | exact ⟨rfl, rfl, rfl⟩ | rfl | exact ⟨rfl, rfl⟩ | exact ⟨rfl, fun _ _ => rfl⟩ | exact fun _ _ h => h | (intro _ _ h; cases h; done), ?_⟩; conv => whnf))
                  rintro ⟨n', A2, c2, os2, m2⟩ ⟨rfl, _, hext⟩ m3 h3 h4
                  conv => whnf
                  refine Or.inr ⟨[3], sc13_33, by kernel_rfl, ?_⟩
                  conv => whnf
                  repeat (first | exact trivial | (refine ⟨by first | exact ⟨rfl, rfl, rfl⟩ | rfl | exact ⟨rfl, rfl⟩ | exact ⟨rfl, fun _ _ => rfl⟩ | exact fun _ _ h => h | (intro _ _ h; cases h; done), ?_⟩; conv => whnf))
                  intro A1 c1 m1 h1
                  conv => whnf
                  intro A2 c2 m2 h2
                  have hx := ext_trans h3 (ext_trans h1.ext h2.ext)
                  refine ⟨⟨gotN a k, A1, c1, [], A2, c2, m2⟩, ⟨by rw [hr], by rw [hr] <;> rfl, ⟨(Cells.of_sealed h1).ext h2.ext, h1.le⟩, ⟨.of_sealed h2, h2.le⟩, fun _ h => (by cases h), hx, news_two h1 (Nat.le_refl _) h2 (fun _ h => (by cases h)) (by intro o h; first | (cases h; done) | (obtain rfl := List.mem_singleton.1 h; exact Or.inl rfl)) (h3)⟩, ?_⟩
                  conv => whnf
                  repeat (first | exact trivial | exact fun _ _ h => h | (refine ⟨by first | exact ⟨rfl, rfl, rfl⟩ | rfl | exact ⟨rfl, rfl⟩ | exact ⟨rfl, fun _ _ => rfl⟩ | exact fun _ _ h => h | (intro _ _ h; cases h; done) | (rw [hr] <;> rfl), ?_⟩; conv => whnf))
                  exact ⟨hx, fun _ _ h => h⟩
              · have hle : isLead a k = false := by rw [← hle]; unfold isLead; simp only [ifand] <;> rfl
                have hr : stepR n k = ⟨a, [], 0⟩ := by rw [hr]; unfold gotS gotN gotY; rw [hle]; rfl
                conv => whnf
                refine Or.inr ⟨[3], sc13_33, by kernel_rfl, ?_⟩
                conv => whnf
                repeat (first | exact trivial | (refine ⟨by first | exact ⟨rfl, rfl, rfl⟩ | rfl | exact ⟨rfl, rfl⟩ | exact ⟨rfl, fun _ _ => rfl⟩ | exact fun _ _ h => h | (intro _ _ h; cases h; done), ?_⟩; conv => whnf))
                intro A1 c1 m1 h1
                conv => whnf
                intro A2 c2 m2 h2
                have hx := ext_trans (fun _ _ h => h) (ext_trans h1.ext h2.ext)
                refine ⟨⟨a, A1, c1, [], A2, c2, m2⟩, ⟨by rw [hr], by rw [hr] <;> rfl, ⟨(Cells.of_sealed h1).ext h2.ext, h1.le⟩, ⟨.of_sealed h2, h2.le⟩, fun _ h => (by cases h), hx, news_two h1 (Nat.le_refl _) h2 (fun _ h => (by cases h)) (by intro o h; first | (cases h; done) | (obtain rfl := List.mem_singleton.1 h; exact Or.inl rfl)) ((fun _ _ h => h))⟩, ?_⟩
                conv => whnf
                repeat (first | exact trivial | exact fun _ _ h => h | (refine ⟨by first | exact ⟨rfl, rfl, rfl⟩ | rfl | exact ⟨rfl, rfl⟩ | exact ⟨rfl, fun _ _ => rfl⟩ | exact fun _ _ h => h | (intro _ _ h; cases h; done) | (rw [hr] <;> rfl), ?_⟩; conv => whnf))
                exact ⟨hx, fun _ _ h => h⟩
            · have hk4 : ¬ k.kind = 4 := by simpa using hk4
              have hr : stepR n k = leaderS a k := by rw [hr]; unfold heardK; rw [if_neg hk1, if_neg hk2, if_neg hk4]
              have hkk1 := hh.k1
              have hkk2 := hh.k2
              conv => whnf
              refine ⟨fun hk3 => ?_, fun hk3 => ?_⟩
              · have hk3 : k.kind = 3 := eq_of_beq hk3
                conv => whnf
                refine ⟨fun _ => ?_, fun h => absurd hk3 (by simpa using h)⟩
                conv => whnf
                refine ⟨fun hm => ?_, fun hm => ?_⟩
                · have hm : ¬ k.term = (a).log.term := by simpa using hm
                  have hlo : k.term < (a).log.term := by omega
                  have hr : stepR n k = ⟨a, [sayN a k.frm (ansM 0 false)], 0⟩ := by rw [hr]; unfold leaderS; rw [if_pos hlo]
                  conv => whnf
                  refine ⟨⟨a, .own, [], m, k.frm, ansM 0 false, none, 0⟩, ⟨by show 0 < 1000; omega, Cells.nil _ _⟩, ?_⟩
                  conv => whnf
                  repeat (first | exact trivial | (refine ⟨by first | exact ⟨rfl, rfl, rfl⟩ | rfl | exact ⟨rfl, rfl⟩ | exact ⟨rfl, fun _ _ => rfl⟩ | exact fun _ _ h => h | (intro _ _ h; cases h; done), ?_⟩; conv => whnf))
                  rintro b rfl
                  conv => whnf
                  refine Or.inr ⟨[3], sc13_26, by kernel_rfl, ?_⟩
                  conv => whnf
                  repeat (first | exact trivial | (refine ⟨by first | exact ⟨rfl, rfl, rfl⟩ | rfl | exact ⟨rfl, rfl⟩ | exact ⟨rfl, fun _ _ => rfl⟩ | exact fun _ _ h => h | (intro _ _ h; cases h; done), ?_⟩; conv => whnf))
                  intro A1 c1 m1 h1
                  conv => whnf
                  intro A2 c2 m2 h2
                  have hx := ext_trans (fun _ _ h => h) (ext_trans h1.ext h2.ext)
                  refine ⟨⟨a, A1, c1, [⟨sayN a k.frm (ansM 0 false), none, 0⟩], A2, c2, m2⟩, ⟨by rw [hr], by rw [hr] <;> rfl, ⟨(Cells.of_sealed h1).ext h2.ext, h1.le⟩, ⟨.of_sealed h2, h2.le⟩, fun _ h => (by obtain rfl := List.mem_singleton.1 h; exact ⟨Cells.nil _ _, Nat.le_refl _, Or.inl rfl⟩), hx, news_two h1 (Nat.le_refl _) h2 (fun _ h => (by obtain rfl := List.mem_singleton.1 h; exact ⟨Cells.nil _ _, Nat.le_refl _, Or.inl rfl⟩)) (by intro o h; first | (cases h; done) | (obtain rfl := List.mem_singleton.1 h; exact Or.inl rfl)) ((fun _ _ h => h))⟩, ?_⟩
                  conv => whnf
                  repeat (first | exact trivial | exact fun _ _ h => h | (refine ⟨by first | exact ⟨rfl, rfl, rfl⟩ | rfl | exact ⟨rfl, rfl⟩ | exact ⟨rfl, fun _ _ => rfl⟩ | exact fun _ _ h => h | (intro _ _ h; cases h; done) | (rw [hr] <;> rfl), ?_⟩; conv => whnf))
                  exact ⟨hx, fun _ _ h => h⟩
                have hm : k.term = (a).log.term := by simpa using hm
                have hlo : ¬ k.term < (a).log.term := by omega
                conv => whnf
                refine ⟨fun hro => ?_, fun hro => ?_⟩
                · have hro : (a).role = 2 := eq_of_beq hro
                  have hr : stepR n k = ⟨a, [], 0⟩ := by rw [hr]; unfold leaderS; rw [if_neg hlo, if_pos hro]
                  conv => whnf
                  intro A1 c1 m1 h1
                  refine ⟨⟨a, A1, c1, [], none, 0, m1⟩, ⟨by rw [hr], by rw [hr] <;> rfl, ⟨.of_sealed h1, h1.le⟩, ⟨Cells.nil _ _, Nat.le_refl _⟩, fun _ h => (by cases h), h1.ext, news_one h1⟩, ?_⟩
                  conv => whnf
                  repeat (first | exact trivial | exact fun _ _ h => h | (refine ⟨by first | exact ⟨rfl, rfl, rfl⟩ | rfl | exact ⟨rfl, rfl⟩ | exact ⟨rfl, fun _ _ => rfl⟩ | exact fun _ _ h => h | (intro _ _ h; cases h; done) | (rw [hr] <;> rfl), ?_⟩; conv => whnf))
                  exact ⟨h1.ext, fun _ _ h => h⟩
                have hro : ¬ (a).role = 2 := by simpa using hro
                conv => whnf
                refine ⟨⟨a, .own, [], m, k.term, k.frm⟩, trivial, ?_⟩
                conv => whnf
                repeat (first | exact trivial | (refine ⟨by first | exact ⟨rfl, rfl, rfl⟩ | rfl | exact ⟨rfl, rfl⟩ | exact ⟨rfl, fun _ _ => rfl⟩ | exact fun _ _ h => h | (intro _ _ h; cases h; done), ?_⟩; conv => whnf))
                intro f hfe
                have hff : Fine f := by rw [hfe]; exact follow_fine hft (heard_turn ha hh) hlo
                have hfe : f = followN a k.term k.frm := hfe
                conv => whnf
                refine ⟨fun _ => ?_, fun h => absurd hk3 (by simpa using h)⟩
                have hr : stepR n k = heardS f k (appendR f k) := by rw [hr]; unfold leaderS; rw [if_neg hlo, if_neg hro, if_pos hk3, hfe]
                conv => whnf
                refine ⟨⟨f, [], m, k, D, e⟩, ⟨(hff).fit, ⟨hh.a1, by have := hh.a2; omega, hh.c1, by have := hh.c2; omega⟩, by have := hh.l; omega, ⟨hD, hde⟩, fun _ h => (by cases h), by decide⟩, ?_⟩
                conv => whnf
                repeat (first | exact trivial | (refine ⟨by first | exact ⟨rfl, rfl, rfl⟩ | rfl | exact ⟨rfl, rfl⟩ | exact ⟨rfl, fun _ _ => rfl⟩ | exact fun _ _ h => h | (intro _ _ h; cases h; done), ?_⟩; conv => whnf))
                rintro ⟨n', ys, os'⟩ ⟨hn, hw, hs', hsd⟩
                conv => whnf
                refine Or.inr ⟨[3], sc13_33, by kernel_rfl, ?_⟩
                conv => whnf
                repeat (first | exact trivial | (refine ⟨by first | exact ⟨rfl, rfl, rfl⟩ | rfl | exact ⟨rfl, rfl⟩ | exact ⟨rfl, fun _ _ => rfl⟩ | exact fun _ _ h => h | (intro _ _ h; cases h; done), ?_⟩; conv => whnf))
                intro A1 c1 m1 h1
                conv => whnf
                intro A2 c2 m2 h2
                have hx := ext_trans h1.ext h2.ext
                refine ⟨⟨n', A1, c1, os', A2, c2, m2⟩, ⟨hn.trans (by rw [hr] <;> rfl), (since_nil hs').trans (by rw [hr] <;> rfl), ⟨(wide_cells hw h1).ext h2.ext, Nat.le_trans hw.1 h1.le⟩, ⟨.of_sealed h2, h2.le⟩, (hsd.ext h1.ext).ext h2.ext, hx, news_two h1 hw.1 h2 hsd hs'.fresh fun _ _ h => h⟩, ?_⟩
                conv => whnf
                repeat (first | exact trivial | exact fun _ _ h => h | (refine ⟨by first | exact ⟨rfl, rfl, rfl⟩ | rfl | exact ⟨rfl, rfl⟩ | exact ⟨rfl, fun _ _ => rfl⟩ | exact fun _ _ h => h | (intro _ _ h; cases h; done) | (rw [hr] <;> rfl), ?_⟩; conv => whnf))
                exact ⟨hx, fun _ _ h => h⟩
              · have hk3 : ¬ k.kind = 3 := by simpa using hk3
                have hk5 : k.kind = 5 := by omega
                conv => whnf
                refine ⟨fun _ => ?_, fun h => absurd hk5 (by simpa using h)⟩
                conv => whnf
                refine ⟨fun hm => ?_, fun hm => ?_⟩
                · have hm : ¬ k.term = (a).log.term := by simpa using hm
                  have hlo : k.term < (a).log.term := by omega
                  have hr : stepR n k = ⟨a, [sayN a k.frm (ansM 0 false)], 0⟩ := by rw [hr]; unfold leaderS; rw [if_pos hlo]
                  conv => whnf
                  refine ⟨⟨a, .own, [], m, k.frm, ansM 0 false, none, 0⟩, ⟨by show 0 < 1000; omega, Cells.nil _ _⟩, ?_⟩
                  conv => whnf
                  repeat (first | exact trivial | (refine ⟨by first | exact ⟨rfl, rfl, rfl⟩ | rfl | exact ⟨rfl, rfl⟩ | exact ⟨rfl, fun _ _ => rfl⟩ | exact fun _ _ h => h | (intro _ _ h; cases h; done), ?_⟩; conv => whnf))
                  rintro b rfl
                  conv => whnf
                  refine Or.inr ⟨[3], sc13_26, by kernel_rfl, ?_⟩
                  conv => whnf
                  repeat (first | exact trivial | (refine ⟨by first | exact ⟨rfl, rfl, rfl⟩ | rfl | exact ⟨rfl, rfl⟩ | exact ⟨rfl, fun _ _ => rfl⟩ | exact fun _ _ h => h | (intro _ _ h; cases h; done), ?_⟩; conv => whnf))
                  intro A1 c1 m1 h1
                  conv => whnf
                  intro A2 c2 m2 h2
                  have hx := ext_trans (fun _ _ h => h) (ext_trans h1.ext h2.ext)
                  refine ⟨⟨a, A1, c1, [⟨sayN a k.frm (ansM 0 false), none, 0⟩], A2, c2, m2⟩, ⟨by rw [hr], by rw [hr] <;> rfl, ⟨(Cells.of_sealed h1).ext h2.ext, h1.le⟩, ⟨.of_sealed h2, h2.le⟩, fun _ h => (by obtain rfl := List.mem_singleton.1 h; exact ⟨Cells.nil _ _, Nat.le_refl _, Or.inl rfl⟩), hx, news_two h1 (Nat.le_refl _) h2 (fun _ h => (by obtain rfl := List.mem_singleton.1 h; exact ⟨Cells.nil _ _, Nat.le_refl _, Or.inl rfl⟩)) (by intro o h; first | (cases h; done) | (obtain rfl := List.mem_singleton.1 h; exact Or.inl rfl)) ((fun _ _ h => h))⟩, ?_⟩
                  conv => whnf
                  repeat (first | exact trivial | exact fun _ _ h => h | (refine ⟨by first | exact ⟨rfl, rfl, rfl⟩ | rfl | exact ⟨rfl, rfl⟩ | exact ⟨rfl, fun _ _ => rfl⟩ | exact fun _ _ h => h | (intro _ _ h; cases h; done) | (rw [hr] <;> rfl), ?_⟩; conv => whnf))
                  exact ⟨hx, fun _ _ h => h⟩
                have hm : k.term = (a).log.term := by simpa using hm
                have hlo : ¬ k.term < (a).log.term := by omega
                conv => whnf
                refine ⟨fun hro => ?_, fun hro => ?_⟩
                · have hro : (a).role = 2 := eq_of_beq hro
                  have hr : stepR n k = ⟨a, [], 0⟩ := by rw [hr]; unfold leaderS; rw [if_neg hlo, if_pos hro]
                  conv => whnf
                  intro A1 c1 m1 h1
                  refine ⟨⟨a, A1, c1, [], none, 0, m1⟩, ⟨by rw [hr], by rw [hr] <;> rfl, ⟨.of_sealed h1, h1.le⟩, ⟨Cells.nil _ _, Nat.le_refl _⟩, fun _ h => (by cases h), h1.ext, news_one h1⟩, ?_⟩
                  conv => whnf
                  repeat (first | exact trivial | exact fun _ _ h => h | (refine ⟨by first | exact ⟨rfl, rfl, rfl⟩ | rfl | exact ⟨rfl, rfl⟩ | exact ⟨rfl, fun _ _ => rfl⟩ | exact fun _ _ h => h | (intro _ _ h; cases h; done) | (rw [hr] <;> rfl), ?_⟩; conv => whnf))
                  exact ⟨h1.ext, fun _ _ h => h⟩
                have hro : ¬ (a).role = 2 := by simpa using hro
                conv => whnf
                refine ⟨⟨a, .own, [], m, k.term, k.frm⟩, trivial, ?_⟩
                conv => whnf
                repeat (first | exact trivial | (refine ⟨by first | exact ⟨rfl, rfl, rfl⟩ | rfl | exact ⟨rfl, rfl⟩ | exact ⟨rfl, fun _ _ => rfl⟩ | exact fun _ _ h => h | (intro _ _ h; cases h; done), ?_⟩; conv => whnf))
                intro f hfe
                have hff : Fine f := by rw [hfe]; exact follow_fine hft (heard_turn ha hh) hlo
                have hfe : f = followN a k.term k.frm := hfe
                conv => whnf
                refine ⟨fun h => absurd (eq_of_beq h) hk3, fun _ => ?_⟩
                have hr : stepR n k = heardS f k (installR f k) := by rw [hr]; unfold leaderS; rw [if_neg hlo, if_neg hro, if_neg hk3, hfe]
                conv => whnf
                refine ⟨⟨f, [], m, k, D, e⟩, ⟨(hff).fit, ⟨hh.a1, by have := hh.a2; omega, hh.c1, by have := hh.c2; omega⟩, by have := hh.l; omega, ⟨hD, hde⟩, fun _ h => (by cases h), by decide⟩, ?_⟩
                conv => whnf
                repeat (first | exact trivial | (refine ⟨by first | exact ⟨rfl, rfl, rfl⟩ | rfl | exact ⟨rfl, rfl⟩ | exact ⟨rfl, fun _ _ => rfl⟩ | exact fun _ _ h => h | (intro _ _ h; cases h; done), ?_⟩; conv => whnf))
                rintro ⟨n', ys, os'⟩ ⟨hn, hw, hs', hsd⟩
                conv => whnf
                refine Or.inr ⟨[3], sc13_33, by kernel_rfl, ?_⟩
                conv => whnf
                repeat (first | exact trivial | (refine ⟨by first | exact ⟨rfl, rfl, rfl⟩ | rfl | exact ⟨rfl, rfl⟩ | exact ⟨rfl, fun _ _ => rfl⟩ | exact fun _ _ h => h | (intro _ _ h; cases h; done), ?_⟩; conv => whnf))
                intro A1 c1 m1 h1
                conv => whnf
                intro A2 c2 m2 h2
                have hx := ext_trans h1.ext h2.ext
                refine ⟨⟨n', A1, c1, os', A2, c2, m2⟩, ⟨hn.trans (by rw [hr] <;> rfl), (since_nil hs').trans (by rw [hr] <;> rfl), ⟨(wide_cells hw h1).ext h2.ext, Nat.le_trans hw.1 h1.le⟩, ⟨.of_sealed h2, h2.le⟩, (hsd.ext h1.ext).ext h2.ext, hx, news_two h1 hw.1 h2 hsd hs'.fresh fun _ _ h => h⟩, ?_⟩
                conv => whnf
                repeat (first | exact trivial | exact fun _ _ h => h | (refine ⟨by first | exact ⟨rfl, rfl, rfl⟩ | rfl | exact ⟨rfl, rfl⟩ | exact ⟨rfl, fun _ _ => rfl⟩ | exact fun _ _ h => h | (intro _ _ h; cases h; done) | (rw [hr] <;> rfl), ?_⟩; conv => whnf))
                exact ⟨hx, fun _ _ h => h⟩
      · have ht : ¬ k.term > n.log.term := of_decide_eq_false ht
        have ha : turnN n k = n := by unfold turnN; rw [if_neg ht]
        rw [ha] at hr hft
        conv => whnf
        have hta : k.term ≤ (n).log.term := by have := turn_term (n := n) (k := k); rw [← ha.symm] at this; exact this
        refine Or.inr ⟨[], sc13_6, by kernel_rfl, ?_⟩
        conv => whnf
        refine ⟨fun hk1 => ?_, fun hk1 => ?_⟩
        · have hk1 : k.kind = 1 := eq_of_beq hk1
          have hr : stepR n k = heardS n k (askR n k) := by rw [hr]; unfold heardK; rw [if_pos hk1]
          conv => whnf
          intro A6 c6 m6 h6
          refine ⟨⟨(n).log, A6, c6, m6⟩, ⟨.of_sealed h6, by show (n).log.items.length < 2 ^ 62; have := hft.l; omega⟩, ?_⟩
          conv => whnf
          repeat (first | exact trivial | (refine ⟨by first | exact ⟨rfl, rfl, rfl⟩ | rfl | exact ⟨rfl, rfl⟩ | exact ⟨rfl, fun _ _ => rfl⟩ | exact fun _ _ h => h | (intro _ _ h; cases h; done), ?_⟩; conv => whnf))
          intro _ _
          conv => whnf
          refine Or.inr ⟨[], sc13_11, by kernel_rfl, ?_⟩
          conv => whnf
          refine ⟨fun hy => ?_, fun hy => ?_⟩
          · have hb : askB n k = true := ask_eq.symm.trans hy
            have hr : stepR n k = ⟨{ n with log := { (n).log with vote := k.frm } }, [sayN n k.frm (voteM true)], 0⟩ := by rw [hr]; unfold heardS askR askN repl1; rw [hb]
            conv => whnf
            refine ⟨⟨{ n with log := { (n).log with vote := k.frm } }, .own, [], m, k.frm, voteM true, none, 0⟩, ⟨by show 0 < 1000; omega, Cells.nil _ _⟩, ?_⟩
            conv => whnf
            repeat (first | exact trivial | (refine ⟨by first | exact ⟨rfl, rfl, rfl⟩ | rfl | exact ⟨rfl, rfl⟩ | exact ⟨rfl, fun _ _ => rfl⟩ | exact fun _ _ h => h | (intro _ _ h; cases h; done) | exact hy, ?_⟩; conv => whnf))
            rintro b rfl
            conv => whnf
            refine Or.inr ⟨[3], sc13_33, by kernel_rfl, ?_⟩
            conv => whnf
            repeat (first | exact trivial | (refine ⟨by first | exact ⟨rfl, rfl, rfl⟩ | rfl | exact ⟨rfl, rfl⟩ | exact ⟨rfl, fun _ _ => rfl⟩ | exact fun _ _ h => h | (intro _ _ h; cases h; done), ?_⟩; conv => whnf))
            intro A1 c1 m1 h1
            conv => whnf
            intro A2 c2 m2 h2
            have hx := ext_trans (fun _ _ h => h) (ext_trans h1.ext h2.ext)
            refine ⟨⟨{ n with log := { (n).log with vote := k.frm } }, A1, c1, [⟨sayN n k.frm (voteM true), none, 0⟩], A2, c2, m2⟩, ⟨by rw [hr], by rw [hr] <;> rfl, ⟨(Cells.of_sealed h1).ext h2.ext, h1.le⟩, ⟨.of_sealed h2, h2.le⟩, fun _ h => (by obtain rfl := List.mem_singleton.1 h; exact ⟨Cells.nil _ _, Nat.le_refl _, Or.inl rfl⟩), hx, news_two h1 (Nat.le_refl _) h2 (fun _ h => (by obtain rfl := List.mem_singleton.1 h; exact ⟨Cells.nil _ _, Nat.le_refl _, Or.inl rfl⟩)) (by intro o h; first | (cases h; done) | (obtain rfl := List.mem_singleton.1 h; exact Or.inl rfl)) ((fun _ _ h => h))⟩, ?_⟩
            conv => whnf
            repeat (first | exact trivial | exact fun _ _ h => h | (refine ⟨by first | exact ⟨rfl, rfl, rfl⟩ | rfl | exact ⟨rfl, rfl⟩ | exact ⟨rfl, fun _ _ => rfl⟩ | exact fun _ _ h => h | (intro _ _ h; cases h; done) | (rw [hr] <;> rfl), ?_⟩; conv => whnf))
            exact ⟨hx, fun _ _ h => h⟩
          · have hb : askB n k = false := ask_eq.symm.trans hy
            have hr : stepR n k = ⟨n, [sayN n k.frm (voteM false)], 0⟩ := by rw [hr]; unfold heardS askR askN repl1; rw [hb]
            conv => whnf
            refine ⟨⟨n, .own, [], m, k.frm, voteM false, none, 0⟩, ⟨by show 0 < 1000; omega, Cells.nil _ _⟩, ?_⟩
            conv => whnf
            repeat (first | exact trivial | (refine ⟨by first | exact ⟨rfl, rfl, rfl⟩ | rfl | exact ⟨rfl, rfl⟩ | exact ⟨rfl, fun _ _ => rfl⟩ | exact fun _ _ h => h | (intro _ _ h; cases h; done) | exact hy, ?_⟩; conv => whnf))
            rintro b rfl
            conv => whnf
            refine Or.inr ⟨[3], sc13_33, by kernel_rfl, ?_⟩
            conv => whnf
            repeat (first | exact trivial | (refine ⟨by first | exact ⟨rfl, rfl, rfl⟩ | rfl | exact ⟨rfl, rfl⟩ | exact ⟨rfl, fun _ _ => rfl⟩ | exact fun _ _ h => h | (intro _ _ h; cases h; done), ?_⟩; conv => whnf))
            intro A1 c1 m1 h1
            conv => whnf
            intro A2 c2 m2 h2
            have hx := ext_trans (fun _ _ h => h) (ext_trans h1.ext h2.ext)
            refine ⟨⟨n, A1, c1, [⟨sayN n k.frm (voteM false), none, 0⟩], A2, c2, m2⟩, ⟨by rw [hr], by rw [hr] <;> rfl, ⟨(Cells.of_sealed h1).ext h2.ext, h1.le⟩, ⟨.of_sealed h2, h2.le⟩, fun _ h => (by obtain rfl := List.mem_singleton.1 h; exact ⟨Cells.nil _ _, Nat.le_refl _, Or.inl rfl⟩), hx, news_two h1 (Nat.le_refl _) h2 (fun _ h => (by obtain rfl := List.mem_singleton.1 h; exact ⟨Cells.nil _ _, Nat.le_refl _, Or.inl rfl⟩)) (by intro o h; first | (cases h; done) | (obtain rfl := List.mem_singleton.1 h; exact Or.inl rfl)) ((fun _ _ h => h))⟩, ?_⟩
            conv => whnf
            repeat (first | exact trivial | exact fun _ _ h => h | (refine ⟨by first | exact ⟨rfl, rfl, rfl⟩ | rfl | exact ⟨rfl, rfl⟩ | exact ⟨rfl, fun _ _ => rfl⟩ | exact fun _ _ h => h | (intro _ _ h; cases h; done) | (rw [hr] <;> rfl), ?_⟩; conv => whnf))
            exact ⟨hx, fun _ _ h => h⟩
        · have hk1 : ¬ k.kind = 1 := by simpa using hk1
          conv => whnf
          refine ⟨fun hk2 => ?_, fun hk2 => ?_⟩
          · have hk2 : k.kind = 2 := eq_of_beq hk2
            have hr : stepR n k = if voteB n k = true then leadS (orN n k) else ⟨n, [], 0⟩ := by rw [hr]; unfold heardK; rw [if_neg hk1, if_pos hk2]
            conv => whnf
            refine ⟨fun hv => ?_, fun hv => ?_⟩
            · have hv : voteB n k = true := by rw [← hv]; unfold voteB; simp only [ifand] <;> rfl
              have hr : stepR n k = leadS (orN n k) := by rw [hr, if_pos hv]
              have hor := orV_lt hft (heard_turn ha.symm hh)
              have hfl := hft.l
              have hfc := hft.c2
              have hfs := hft.s2
              have hf1 := hh.f1
              have hf2 := (heard_turn ha.symm hh).f2
              have hwf : IntKind.u64.wrap k.frm = k.frm := by rw [wrapu]; omega
              conv => whnf
              refine Or.inr ⟨[], sc13_17, by kernel_rfl, ?_⟩
              conv => whnf
              conv in (occs := *) (IntKind.wrap IntKind.u64 _) => all_goals rw [hwf]
              repeat (first | exact trivial | (refine ⟨by first | exact ⟨rfl, rfl, rfl⟩ | rfl | exact ⟨rfl, rfl⟩ | exact ⟨rfl, fun _ _ => rfl⟩ | exact fun _ _ h => h | (intro _ _ h; cases h; done) | exact hh.f1, ?_⟩; conv => whnf))
              cases hy : enoughB (orN n k) with
              | true =>
                have hr : stepR n k = ⟨winN (orN n k), feedAllK (winN (orN n k)), 0⟩ := by rw [hr]; unfold leadS; rw [if_pos hy]
                refine ⟨⟨orN n k, [], m, true⟩, ⟨or_fit hft, by show (n).log.items.length ≤ 299; omega, hfc, lead_mono' hft, ⟨hor.1, by show orV n k < 256; omega⟩, fun _ h => (by cases h), by decide, hy⟩, ?_⟩
                conv => whnf
                repeat (first | exact trivial | (refine ⟨by first | exact ⟨rfl, rfl, rfl⟩ | rfl | exact ⟨rfl, rfl⟩ | exact ⟨rfl, fun _ _ => rfl⟩ | exact fun _ _ h => h | (intro _ _ h; cases h; done), ?_⟩; conv => whnf))
                rintro ⟨n', A2, c2, os2, m2⟩ ⟨hpost, hext⟩ m3 h3 h4
                obtain ⟨hn', hsince, hsaid, hc, hcp, how⟩ := hpost rfl
                conv => whnf
                refine Or.inr ⟨[3], sc13_33, by kernel_rfl, ?_⟩
                conv => whnf
                repeat (first | exact trivial | (refine ⟨by first | exact ⟨rfl, rfl, rfl⟩ | rfl | exact ⟨rfl, rfl⟩ | exact ⟨rfl, fun _ _ => rfl⟩ | exact fun _ _ h => h | (intro _ _ h; cases h; done), ?_⟩; conv => whnf))
                intro A5 c5 m5 h5
                have hx := ext_trans h3 h5.ext
                refine ⟨⟨n', A2, c2, os2, A5, c5, m5⟩, ⟨hn'.trans (by rw [hr] <;> rfl), (since_nil hsince).trans (by rw [hr, hn'] <;> rfl), ⟨(hc.ext h4).ext h5.ext, hcp⟩, ⟨.of_sealed h5, h5.le⟩, (hsaid.ext h4).ext h5.ext, hx, news_st ⟨how.1.ext h4, how.2⟩ h5 (hsaid.ext h4) hsince.fresh h3⟩, ?_⟩
                conv => whnf
                repeat (first | exact trivial | exact fun _ _ h => h | (refine ⟨by first | exact ⟨rfl, rfl, rfl⟩ | rfl | exact ⟨rfl, rfl⟩ | exact ⟨rfl, fun _ _ => rfl⟩ | exact fun _ _ h => h | (intro _ _ h; cases h; done) | (rw [hr] <;> rfl), ?_⟩; conv => whnf))
                exact ⟨hx, fun _ _ h => h⟩
              | false =>
                have hr : stepR n k = ⟨orN n k, [], 0⟩ := by rw [hr]; unfold leadS; rw [if_neg (by rw [hy]; decide)]
                refine ⟨⟨orN n k, [], m, false⟩, ⟨or_fit hft, by show (n).log.items.length ≤ 299; omega, hfc, lead_mono' hft, ⟨hor.1, by show orV n k < 256; omega⟩, fun _ h => (by cases h), by decide, hy⟩, ?_⟩
                conv => whnf
                repeat (first | exact trivial | (refine ⟨by first | exact ⟨rfl, rfl, rfl⟩ | rfl | exact ⟨rfl, rfl⟩ | exact ⟨rfl, fun _ _ => rfl⟩ | exact fun _ _ h => h | (intro _ _ h; cases h; done), ?_⟩; conv => whnf))
                rintro ⟨n', A2, c2, os2, m2⟩ ⟨_, hext⟩ m3 h3 h4
                conv => whnf
                refine Or.inr ⟨[3], sc13_33, by kernel_rfl, ?_⟩
                conv => whnf
                repeat (first | exact trivial | (refine ⟨by first | exact ⟨rfl, rfl, rfl⟩ | rfl | exact ⟨rfl, rfl⟩ | exact ⟨rfl, fun _ _ => rfl⟩ | exact fun _ _ h => h | (intro _ _ h; cases h; done), ?_⟩; conv => whnf))
                intro A1 c1 m1 h1
                conv => whnf
                intro A2 c2 m2 h2
                have hx := ext_trans h3 (ext_trans h1.ext h2.ext)
                refine ⟨⟨orN n k, A1, c1, [], A2, c2, m2⟩, ⟨by rw [hr], by rw [hr] <;> rfl, ⟨(Cells.of_sealed h1).ext h2.ext, h1.le⟩, ⟨.of_sealed h2, h2.le⟩, fun _ h => (by cases h), hx, news_two h1 (Nat.le_refl _) h2 (fun _ h => (by cases h)) (by intro o h; first | (cases h; done) | (obtain rfl := List.mem_singleton.1 h; exact Or.inl rfl)) (h3)⟩, ?_⟩
                conv => whnf
                repeat (first | exact trivial | exact fun _ _ h => h | (refine ⟨by first | exact ⟨rfl, rfl, rfl⟩ | rfl | exact ⟨rfl, rfl⟩ | exact ⟨rfl, fun _ _ => rfl⟩ | exact fun _ _ h => h | (intro _ _ h; cases h; done) | (rw [hr] <;> rfl), ?_⟩; conv => whnf))
                exact ⟨hx, fun _ _ h => h⟩
            · have hv : voteB n k = false := by rw [← hv]; unfold voteB; simp only [ifand] <;> rfl
              have hr : stepR n k = ⟨n, [], 0⟩ := by rw [hr, if_neg (by rw [hv]; decide)]
              conv => whnf
              refine Or.inr ⟨[3], sc13_33, by kernel_rfl, ?_⟩
              conv => whnf
              repeat (first | exact trivial | (refine ⟨by first | exact ⟨rfl, rfl, rfl⟩ | rfl | exact ⟨rfl, rfl⟩ | exact ⟨rfl, fun _ _ => rfl⟩ | exact fun _ _ h => h | (intro _ _ h; cases h; done), ?_⟩; conv => whnf))
              intro A1 c1 m1 h1
              refine ⟨⟨n, A1, c1, [], none, 0, m1⟩, ⟨by rw [hr], by rw [hr] <;> rfl, ⟨.of_sealed h1, h1.le⟩, ⟨Cells.nil _ _, Nat.le_refl _⟩, fun _ h => (by cases h), h1.ext, news_one h1⟩, ?_⟩
              conv => whnf
              repeat (first | exact trivial | exact fun _ _ h => h | (refine ⟨by first | exact ⟨rfl, rfl, rfl⟩ | rfl | exact ⟨rfl, rfl⟩ | exact ⟨rfl, fun _ _ => rfl⟩ | exact fun _ _ h => h | (intro _ _ h; cases h; done) | (rw [hr] <;> rfl), ?_⟩; conv => whnf))
              exact ⟨h1.ext, fun _ _ h => h⟩
          · have hk2 : ¬ k.kind = 2 := by simpa using hk2
            conv => whnf
            refine ⟨fun hk4 => ?_, fun hk4 => ?_⟩
            · have hk4 : k.kind = 4 := eq_of_beq hk4
              have hr : stepR n k = gotS n k := by rw [hr]; unfold heardK; rw [if_neg hk1, if_neg hk2, if_pos hk4]
              conv => whnf
              refine ⟨fun hle => ?_, fun hle => ?_⟩
              · have hle : isLead n k = true := by rw [← hle]; unfold isLead; simp only [ifand] <;> rfl
                conv => whnf
                cases hy : gotY n k with
                | true =>
                  have hr : stepR n k = ⟨gotN n k, [feedN (gotN n k) k.frm], 0⟩ := by rw [hr]; unfold gotS; rw [if_pos hy]
                  refine ⟨⟨n, [], m, k, D, e, true⟩, ⟨hft.fit, hft.rg, hft.c2, hft.mono, ⟨hh.f1, (heard_turn ha.symm hh).f2, hh.a1, by have := hh.a2; omega⟩, fun _ h => (by cases h), by decide, hy, fun _ => hle⟩, ?_⟩
                  conv => whnf
                  repeat (first | exact trivial | (refine ⟨by first | exact ⟨rfl, rfl, rfl⟩ | rfl | exact ⟨rfl, rfl⟩ | exact ⟨rfl, fun _ _ => rfl⟩ | exact fun _ _ h => h | (intro _ _ h; cases h; done), ?_⟩; conv => whnf))
                  rintro ⟨n', A2, c2, os2, m2⟩ ⟨hn', hpost, hext⟩ m3 h3 h4
                  obtain ⟨hsince, hsaid, hc, hcp, how⟩ := hpost rfl
                  conv => whnf
                  refine Or.inr ⟨[3], sc13_33, by kernel_rfl, ?_⟩
                  conv => whnf
                  repeat (first | exact trivial | (refine ⟨by first | exact ⟨rfl, rfl, rfl⟩ | rfl | exact ⟨rfl, rfl⟩ | exact ⟨rfl, fun _ _ => rfl⟩ | exact fun _ _ h => h | (intro _ _ h; cases h; done), ?_⟩; conv => whnf))
                  intro A5 c5 m5 h5
                  have hx := ext_trans h3 h5.ext
                  refine ⟨⟨n', A2, c2, os2, A5, c5, m5⟩, ⟨hn'.trans (by rw [hr] <;> rfl), (since_nil hsince).trans (by rw [hr, hn'] <;> rfl), ⟨(hc.ext h4).ext h5.ext, hcp⟩, ⟨.of_sealed h5, h5.le⟩, (hsaid.ext h4).ext h5.ext, hx, news_st ⟨how.1.ext h4, how.2⟩ h5 (hsaid.ext h4) hsince.fresh h3⟩, ?_⟩
                  conv => whnf
                  repeat (first | exact trivial | exact fun _ _ h => h | (refine ⟨by first | exact ⟨rfl, rfl, rfl⟩ | rfl | exact ⟨rfl, rfl⟩ | exact ⟨rfl, fun _ _ => rfl⟩ | exact fun _ _ h => h | (intro _ _ h; cases h; done) | (rw [hr] <;> rfl), ?_⟩; conv => whnf))
                  exact ⟨hx, fun _ _ h => h⟩
                | false =>
                  have hr : stepR n k = ⟨gotN n k, [], 0⟩ := by rw [hr]; unfold gotS; rw [if_neg (by rw [hy]; decide)]
                  refine ⟨⟨n, [], m, k, D, e, false⟩, ⟨hft.fit, hft.rg, hft.c2, hft.mono, ⟨hh.f1, (heard_turn ha.symm hh).f2, hh.a1, by have := hh.a2; omega⟩, fun _ h => (by cases h), by decide, hy, fun _ => hle⟩, ?_⟩
                  conv => whnf
                  repeat (first | exact trivial | (refine ⟨by first | exact ⟨rfl, rfl, rfl⟩ | rfl | exact ⟨rfl, rfl⟩ | exact ⟨rfl, fun _ _ => rfl⟩ | exact fun _ _ h => h | (intro _ _ h; cases h; done), ?_⟩; conv => whnf))
                  rintro ⟨n', A2, c2, os2, m2⟩ ⟨rfl, _, hext⟩ m3 h3 h4
                  conv => whnf
                  refine Or.inr ⟨[3], sc13_33, by kernel_rfl, ?_⟩
                  conv => whnf
                  repeat (first | exact trivial | (refine ⟨by first | exact ⟨rfl, rfl, rfl⟩ | rfl | exact ⟨rfl, rfl⟩ | exact ⟨rfl, fun _ _ => rfl⟩ | exact fun _ _ h => h | (intro _ _ h; cases h; done), ?_⟩; conv => whnf))
                  intro A1 c1 m1 h1
                  conv => whnf
                  intro A2 c2 m2 h2
                  have hx := ext_trans h3 (ext_trans h1.ext h2.ext)
                  refine ⟨⟨gotN n k, A1, c1, [], A2, c2, m2⟩, ⟨by rw [hr], by rw [hr] <;> rfl, ⟨(Cells.of_sealed h1).ext h2.ext, h1.le⟩, ⟨.of_sealed h2, h2.le⟩, fun _ h => (by cases h), hx, news_two h1 (Nat.le_refl _) h2 (fun _ h => (by cases h)) (by intro o h; first | (cases h; done) | (obtain rfl := List.mem_singleton.1 h; exact Or.inl rfl)) (h3)⟩, ?_⟩
                  conv => whnf
                  repeat (first | exact trivial | exact fun _ _ h => h | (refine ⟨by first | exact ⟨rfl, rfl, rfl⟩ | rfl | exact ⟨rfl, rfl⟩ | exact ⟨rfl, fun _ _ => rfl⟩ | exact fun _ _ h => h | (intro _ _ h; cases h; done) | (rw [hr] <;> rfl), ?_⟩; conv => whnf))
                  exact ⟨hx, fun _ _ h => h⟩
              · have hle : isLead n k = false := by rw [← hle]; unfold isLead; simp only [ifand] <;> rfl
                have hr : stepR n k = ⟨n, [], 0⟩ := by rw [hr]; unfold gotS gotN gotY; rw [hle]; rfl
                conv => whnf
                refine Or.inr ⟨[3], sc13_33, by kernel_rfl, ?_⟩
                conv => whnf
                repeat (first | exact trivial | (refine ⟨by first | exact ⟨rfl, rfl, rfl⟩ | rfl | exact ⟨rfl, rfl⟩ | exact ⟨rfl, fun _ _ => rfl⟩ | exact fun _ _ h => h | (intro _ _ h; cases h; done), ?_⟩; conv => whnf))
                intro A1 c1 m1 h1
                refine ⟨⟨n, A1, c1, [], none, 0, m1⟩, ⟨by rw [hr], by rw [hr] <;> rfl, ⟨.of_sealed h1, h1.le⟩, ⟨Cells.nil _ _, Nat.le_refl _⟩, fun _ h => (by cases h), h1.ext, news_one h1⟩, ?_⟩
                conv => whnf
                repeat (first | exact trivial | exact fun _ _ h => h | (refine ⟨by first | exact ⟨rfl, rfl, rfl⟩ | rfl | exact ⟨rfl, rfl⟩ | exact ⟨rfl, fun _ _ => rfl⟩ | exact fun _ _ h => h | (intro _ _ h; cases h; done) | (rw [hr] <;> rfl), ?_⟩; conv => whnf))
                exact ⟨h1.ext, fun _ _ h => h⟩
            · have hk4 : ¬ k.kind = 4 := by simpa using hk4
              have hr : stepR n k = leaderS n k := by rw [hr]; unfold heardK; rw [if_neg hk1, if_neg hk2, if_neg hk4]
              have hkk1 := hh.k1
              have hkk2 := hh.k2
              conv => whnf
              refine ⟨fun hk3 => ?_, fun hk3 => ?_⟩
              · have hk3 : k.kind = 3 := eq_of_beq hk3
                conv => whnf
                refine ⟨fun _ => ?_, fun h => absurd hk3 (by simpa using h)⟩
                conv => whnf
                refine ⟨fun hm => ?_, fun hm => ?_⟩
                · have hm : ¬ k.term = (n).log.term := by simpa using hm
                  have hlo : k.term < (n).log.term := by omega
                  have hr : stepR n k = ⟨n, [sayN n k.frm (ansM 0 false)], 0⟩ := by rw [hr]; unfold leaderS; rw [if_pos hlo]
                  conv => whnf
                  refine ⟨⟨n, .own, [], m, k.frm, ansM 0 false, none, 0⟩, ⟨by show 0 < 1000; omega, Cells.nil _ _⟩, ?_⟩
                  conv => whnf
                  repeat (first | exact trivial | (refine ⟨by first | exact ⟨rfl, rfl, rfl⟩ | rfl | exact ⟨rfl, rfl⟩ | exact ⟨rfl, fun _ _ => rfl⟩ | exact fun _ _ h => h | (intro _ _ h; cases h; done), ?_⟩; conv => whnf))
                  rintro b rfl
                  conv => whnf
                  refine Or.inr ⟨[3], sc13_26, by kernel_rfl, ?_⟩
                  conv => whnf
                  repeat (first | exact trivial | (refine ⟨by first | exact ⟨rfl, rfl, rfl⟩ | rfl | exact ⟨rfl, rfl⟩ | exact ⟨rfl, fun _ _ => rfl⟩ | exact fun _ _ h => h | (intro _ _ h; cases h; done), ?_⟩; conv => whnf))
                  intro A1 c1 m1 h1
                  conv => whnf
                  intro A2 c2 m2 h2
                  have hx := ext_trans (fun _ _ h => h) (ext_trans h1.ext h2.ext)
                  refine ⟨⟨n, A1, c1, [⟨sayN n k.frm (ansM 0 false), none, 0⟩], A2, c2, m2⟩, ⟨by rw [hr], by rw [hr] <;> rfl, ⟨(Cells.of_sealed h1).ext h2.ext, h1.le⟩, ⟨.of_sealed h2, h2.le⟩, fun _ h => (by obtain rfl := List.mem_singleton.1 h; exact ⟨Cells.nil _ _, Nat.le_refl _, Or.inl rfl⟩), hx, news_two h1 (Nat.le_refl _) h2 (fun _ h => (by obtain rfl := List.mem_singleton.1 h; exact ⟨Cells.nil _ _, Nat.le_refl _, Or.inl rfl⟩)) (by intro o h; first | (cases h; done) | (obtain rfl := List.mem_singleton.1 h; exact Or.inl rfl)) ((fun _ _ h => h))⟩, ?_⟩
                  conv => whnf
                  repeat (first | exact trivial | exact fun _ _ h => h | (refine ⟨by first | exact ⟨rfl, rfl, rfl⟩ | rfl | exact ⟨rfl, rfl⟩ | exact ⟨rfl, fun _ _ => rfl⟩ | exact fun _ _ h => h | (intro _ _ h; cases h; done) | (rw [hr] <;> rfl), ?_⟩; conv => whnf))
                  exact ⟨hx, fun _ _ h => h⟩
                have hm : k.term = (n).log.term := by simpa using hm
                have hlo : ¬ k.term < (n).log.term := by omega
                conv => whnf
                refine ⟨fun hro => ?_, fun hro => ?_⟩
                · have hro : (n).role = 2 := eq_of_beq hro
                  have hr : stepR n k = ⟨n, [], 0⟩ := by rw [hr]; unfold leaderS; rw [if_neg hlo, if_pos hro]
                  conv => whnf
                  intro A1 c1 m1 h1
                  refine ⟨⟨n, A1, c1, [], none, 0, m1⟩, ⟨by rw [hr], by rw [hr] <;> rfl, ⟨.of_sealed h1, h1.le⟩, ⟨Cells.nil _ _, Nat.le_refl _⟩, fun _ h => (by cases h), h1.ext, news_one h1⟩, ?_⟩
                  conv => whnf
                  repeat (first | exact trivial | exact fun _ _ h => h | (refine ⟨by first | exact ⟨rfl, rfl, rfl⟩ | rfl | exact ⟨rfl, rfl⟩ | exact ⟨rfl, fun _ _ => rfl⟩ | exact fun _ _ h => h | (intro _ _ h; cases h; done) | (rw [hr] <;> rfl), ?_⟩; conv => whnf))
                  exact ⟨h1.ext, fun _ _ h => h⟩
                have hro : ¬ (n).role = 2 := by simpa using hro
                conv => whnf
                refine ⟨⟨n, .own, [], m, k.term, k.frm⟩, trivial, ?_⟩
                conv => whnf
                repeat (first | exact trivial | (refine ⟨by first | exact ⟨rfl, rfl, rfl⟩ | rfl | exact ⟨rfl, rfl⟩ | exact ⟨rfl, fun _ _ => rfl⟩ | exact fun _ _ h => h | (intro _ _ h; cases h; done), ?_⟩; conv => whnf))
                intro f hfe
                have hff : Fine f := by rw [hfe]; exact follow_fine hft (heard_turn ha.symm hh) hlo
                have hfe : f = followN n k.term k.frm := hfe
                conv => whnf
                refine ⟨fun _ => ?_, fun h => absurd hk3 (by simpa using h)⟩
                have hr : stepR n k = heardS f k (appendR f k) := by rw [hr]; unfold leaderS; rw [if_neg hlo, if_neg hro, if_pos hk3, hfe]
                conv => whnf
                refine ⟨⟨f, [], m, k, D, e⟩, ⟨(hff).fit, ⟨hh.a1, by have := hh.a2; omega, hh.c1, by have := hh.c2; omega⟩, by have := hh.l; omega, ⟨hD, hde⟩, fun _ h => (by cases h), by decide⟩, ?_⟩
                conv => whnf
                repeat (first | exact trivial | (refine ⟨by first | exact ⟨rfl, rfl, rfl⟩ | rfl | exact ⟨rfl, rfl⟩ | exact ⟨rfl, fun _ _ => rfl⟩ | exact fun _ _ h => h | (intro _ _ h; cases h; done), ?_⟩; conv => whnf))
                rintro ⟨n', ys, os'⟩ ⟨hn, hw, hs', hsd⟩
                conv => whnf
                refine Or.inr ⟨[3], sc13_33, by kernel_rfl, ?_⟩
                conv => whnf
                repeat (first | exact trivial | (refine ⟨by first | exact ⟨rfl, rfl, rfl⟩ | rfl | exact ⟨rfl, rfl⟩ | exact ⟨rfl, fun _ _ => rfl⟩ | exact fun _ _ h => h | (intro _ _ h; cases h; done), ?_⟩; conv => whnf))
                intro A1 c1 m1 h1
                conv => whnf
                intro A2 c2 m2 h2
                have hx := ext_trans h1.ext h2.ext
                refine ⟨⟨n', A1, c1, os', A2, c2, m2⟩, ⟨hn.trans (by rw [hr] <;> rfl), (since_nil hs').trans (by rw [hr] <;> rfl), ⟨(wide_cells hw h1).ext h2.ext, Nat.le_trans hw.1 h1.le⟩, ⟨.of_sealed h2, h2.le⟩, (hsd.ext h1.ext).ext h2.ext, hx, news_two h1 hw.1 h2 hsd hs'.fresh fun _ _ h => h⟩, ?_⟩
                conv => whnf
                repeat (first | exact trivial | exact fun _ _ h => h | (refine ⟨by first | exact ⟨rfl, rfl, rfl⟩ | rfl | exact ⟨rfl, rfl⟩ | exact ⟨rfl, fun _ _ => rfl⟩ | exact fun _ _ h => h | (intro _ _ h; cases h; done) | (rw [hr] <;> rfl), ?_⟩; conv => whnf))
                exact ⟨hx, fun _ _ h => h⟩
              · have hk3 : ¬ k.kind = 3 := by simpa using hk3
                have hk5 : k.kind = 5 := by omega
                conv => whnf
                refine ⟨fun _ => ?_, fun h => absurd hk5 (by simpa using h)⟩
                conv => whnf
                refine ⟨fun hm => ?_, fun hm => ?_⟩
                · have hm : ¬ k.term = (n).log.term := by simpa using hm
                  have hlo : k.term < (n).log.term := by omega
                  have hr : stepR n k = ⟨n, [sayN n k.frm (ansM 0 false)], 0⟩ := by rw [hr]; unfold leaderS; rw [if_pos hlo]
                  conv => whnf
                  refine ⟨⟨n, .own, [], m, k.frm, ansM 0 false, none, 0⟩, ⟨by show 0 < 1000; omega, Cells.nil _ _⟩, ?_⟩
                  conv => whnf
                  repeat (first | exact trivial | (refine ⟨by first | exact ⟨rfl, rfl, rfl⟩ | rfl | exact ⟨rfl, rfl⟩ | exact ⟨rfl, fun _ _ => rfl⟩ | exact fun _ _ h => h | (intro _ _ h; cases h; done), ?_⟩; conv => whnf))
                  rintro b rfl
                  conv => whnf
                  refine Or.inr ⟨[3], sc13_26, by kernel_rfl, ?_⟩
                  conv => whnf
                  repeat (first | exact trivial | (refine ⟨by first | exact ⟨rfl, rfl, rfl⟩ | rfl | exact ⟨rfl, rfl⟩ | exact ⟨rfl, fun _ _ => rfl⟩ | exact fun _ _ h => h | (intro _ _ h; cases h; done), ?_⟩; conv => whnf))
                  intro A1 c1 m1 h1
                  conv => whnf
                  intro A2 c2 m2 h2
                  have hx := ext_trans (fun _ _ h => h) (ext_trans h1.ext h2.ext)
                  refine ⟨⟨n, A1, c1, [⟨sayN n k.frm (ansM 0 false), none, 0⟩], A2, c2, m2⟩, ⟨by rw [hr], by rw [hr] <;> rfl, ⟨(Cells.of_sealed h1).ext h2.ext, h1.le⟩, ⟨.of_sealed h2, h2.le⟩, fun _ h => (by obtain rfl := List.mem_singleton.1 h; exact ⟨Cells.nil _ _, Nat.le_refl _, Or.inl rfl⟩), hx, news_two h1 (Nat.le_refl _) h2 (fun _ h => (by obtain rfl := List.mem_singleton.1 h; exact ⟨Cells.nil _ _, Nat.le_refl _, Or.inl rfl⟩)) (by intro o h; first | (cases h; done) | (obtain rfl := List.mem_singleton.1 h; exact Or.inl rfl)) ((fun _ _ h => h))⟩, ?_⟩
                  conv => whnf
                  repeat (first | exact trivial | exact fun _ _ h => h | (refine ⟨by first | exact ⟨rfl, rfl, rfl⟩ | rfl | exact ⟨rfl, rfl⟩ | exact ⟨rfl, fun _ _ => rfl⟩ | exact fun _ _ h => h | (intro _ _ h; cases h; done) | (rw [hr] <;> rfl), ?_⟩; conv => whnf))
                  exact ⟨hx, fun _ _ h => h⟩
                have hm : k.term = (n).log.term := by simpa using hm
                have hlo : ¬ k.term < (n).log.term := by omega
                conv => whnf
                refine ⟨fun hro => ?_, fun hro => ?_⟩
                · have hro : (n).role = 2 := eq_of_beq hro
                  have hr : stepR n k = ⟨n, [], 0⟩ := by rw [hr]; unfold leaderS; rw [if_neg hlo, if_pos hro]
                  conv => whnf
                  intro A1 c1 m1 h1
                  refine ⟨⟨n, A1, c1, [], none, 0, m1⟩, ⟨by rw [hr], by rw [hr] <;> rfl, ⟨.of_sealed h1, h1.le⟩, ⟨Cells.nil _ _, Nat.le_refl _⟩, fun _ h => (by cases h), h1.ext, news_one h1⟩, ?_⟩
                  conv => whnf
                  repeat (first | exact trivial | exact fun _ _ h => h | (refine ⟨by first | exact ⟨rfl, rfl, rfl⟩ | rfl | exact ⟨rfl, rfl⟩ | exact ⟨rfl, fun _ _ => rfl⟩ | exact fun _ _ h => h | (intro _ _ h; cases h; done) | (rw [hr] <;> rfl), ?_⟩; conv => whnf))
                  exact ⟨h1.ext, fun _ _ h => h⟩
                have hro : ¬ (n).role = 2 := by simpa using hro
                conv => whnf
                refine ⟨⟨n, .own, [], m, k.term, k.frm⟩, trivial, ?_⟩
                conv => whnf
                repeat (first | exact trivial | (refine ⟨by first | exact ⟨rfl, rfl, rfl⟩ | rfl | exact ⟨rfl, rfl⟩ | exact ⟨rfl, fun _ _ => rfl⟩ | exact fun _ _ h => h | (intro _ _ h; cases h; done), ?_⟩; conv => whnf))
                intro f hfe
                have hff : Fine f := by rw [hfe]; exact follow_fine hft (heard_turn ha.symm hh) hlo
                have hfe : f = followN n k.term k.frm := hfe
                conv => whnf
                refine ⟨fun h => absurd (eq_of_beq h) hk3, fun _ => ?_⟩
                have hr : stepR n k = heardS f k (installR f k) := by rw [hr]; unfold leaderS; rw [if_neg hlo, if_neg hro, if_neg hk3, hfe]
                conv => whnf
                refine ⟨⟨f, [], m, k, D, e⟩, ⟨(hff).fit, ⟨hh.a1, by have := hh.a2; omega, hh.c1, by have := hh.c2; omega⟩, by have := hh.l; omega, ⟨hD, hde⟩, fun _ h => (by cases h), by decide⟩, ?_⟩
                conv => whnf
                repeat (first | exact trivial | (refine ⟨by first | exact ⟨rfl, rfl, rfl⟩ | rfl | exact ⟨rfl, rfl⟩ | exact ⟨rfl, fun _ _ => rfl⟩ | exact fun _ _ h => h | (intro _ _ h; cases h; done), ?_⟩; conv => whnf))
                rintro ⟨n', ys, os'⟩ ⟨hn, hw, hs', hsd⟩
                conv => whnf
                refine Or.inr ⟨[3], sc13_33, by kernel_rfl, ?_⟩
                conv => whnf
                repeat (first | exact trivial | (refine ⟨by first | exact ⟨rfl, rfl, rfl⟩ | rfl | exact ⟨rfl, rfl⟩ | exact ⟨rfl, fun _ _ => rfl⟩ | exact fun _ _ h => h | (intro _ _ h; cases h; done), ?_⟩; conv => whnf))
                intro A1 c1 m1 h1
                conv => whnf
                intro A2 c2 m2 h2
                have hx := ext_trans h1.ext h2.ext
                refine ⟨⟨n', A1, c1, os', A2, c2, m2⟩, ⟨hn.trans (by rw [hr] <;> rfl), (since_nil hs').trans (by rw [hr] <;> rfl), ⟨(wide_cells hw h1).ext h2.ext, Nat.le_trans hw.1 h1.le⟩, ⟨.of_sealed h2, h2.le⟩, (hsd.ext h1.ext).ext h2.ext, hx, news_two h1 hw.1 h2 hsd hs'.fresh fun _ _ h => h⟩, ?_⟩
                conv => whnf
                repeat (first | exact trivial | exact fun _ _ h => h | (refine ⟨by first | exact ⟨rfl, rfl, rfl⟩ | rfl | exact ⟨rfl, rfl⟩ | exact ⟨rfl, fun _ _ => rfl⟩ | exact fun _ _ h => h | (intro _ _ h; cases h; done) | (rw [hr] <;> rfl), ?_⟩; conv => whnf))
                exact ⟨hx, fun _ _ h => h⟩
end Go.Proofs.Ytjpjiniclibgkaa.Sx
