/- A leader lets hear of itself, and takes entries: Beat, Propose. Then: Plain laws of the steps: a node that can be leads to one that can be. Plain laws of the steps, second part: what a step leaves of a node. Plain laws of the steps, third part: to whom what is said. -/
import Derived.Test.YtjpjiniclibgkaaSafeE
namespace Go.Proofs.Ytjpjiniclibgkaa.Sx
open Go

theorem Fine.near {n : Node} (h : Fine n) : NearAll n := by
  intro i hi
  have := h.s2
  have := h.rg.nx i hi
  have hli : lastI n = n.log.base + n.log.items.length := rfl
  rw [hli] at this
  exact ⟨by omega, by omega, by rw [Int.toNat_natCast]; omega, by rw [Int.toNat_natCast]; omega⟩
def beatR (n : Node) : StepR := if goodB n = true then (if n.role = 2 then ⟨n, feedAllK n, 0⟩ else ⟨n, [], 0⟩) else ⟨zeroN, [], 1⟩
set_option maxRecDepth 100000 in
set_option maxHeartbeats 1600000 in
theorem beat_ok : SpecOk Try.prog 23 (turnSpec beatR) := by
  refine spec_of_exec (fn := Try.f23) (c := Try.f23.body.getD .skip) (d := 0) (lv := ([0, 1, 2, 3, 4, 5, 8, 17])) (DP := DPx T1 (CPs S19) ([0, 1, 2, 3, 4, 5, 8, 17])) T1_ok S19_ok (fun B => DPx_ok T1_ok ord S19_ok B) (turnSpec beatR) (by rfl) (by rfl) (by rfl) (fun _ => Nat.le_of_ble_eq_true (by kernel_rfl)) ?_
  rintro ⟨n, A, c, m⟩ ⟨hM, hcap, hl⟩
  conv => whnf
  refine ⟨⟨n, A, c, m⟩, ⟨hM, hl⟩, ?_⟩
  conv => whnf
  repeat (first | exact trivial | (refine ⟨by first | exact ⟨rfl, rfl, rfl⟩ | rfl | exact ⟨rfl, rfl⟩ | exact ⟨rfl, fun _ _ => rfl⟩ | exact fun _ _ h => h | (intro _ _ h; cases h; done), ?_⟩; conv => whnf))
  intro _ _
  conv => whnf
  refine ⟨fun hg => ?_, fun hg => ?_⟩
  · have hg : goodB n = false := by simpa using hg
    have hr : beatR n = ⟨zeroN, [], 1⟩ := by unfold beatR; rw [if_neg (by rw [hg]; decide)]
    conv => whnf
    refine ⟨⟨zeroN, none, 0, [], none, 0, m⟩, ⟨by rw [hr], by rw [hr] <;> rfl, ⟨Cells.nil _ _, Nat.le_refl _⟩, ⟨Cells.nil _ _, Nat.le_refl _⟩, fun _ h => (by cases h), fun _ _ h => h, news_err⟩, ?_⟩
    conv => whnf
    repeat (first | exact trivial | exact fun _ _ h => h | (refine ⟨by first | exact ⟨rfl, rfl, rfl⟩ | rfl | exact ⟨rfl, rfl⟩ | exact ⟨rfl, fun _ _ => rfl⟩ | exact fun _ _ h => h | (intro _ _ h; cases h; done) | (rw [hr] <;> rfl), ?_⟩; conv => whnf))
  · have hg : goodB n = true := by simpa using hg
    have hfine := fine_iff.1 hg
    have hlen := hfine.l
    conv => whnf
    refine ⟨⟨n, A, c, m⟩, ⟨hM, by show n.log.items.length ≤ 2 ^ 40; omega⟩, ?_⟩
    conv => whnf
    repeat (first | exact trivial | (refine ⟨by first | exact ⟨rfl, rfl, rfl⟩ | rfl | exact ⟨rfl, rfl⟩ | exact ⟨rfl, fun _ _ => rfl⟩ | exact fun _ _ h => h | (intro _ _ h; cases h; done), ?_⟩; conv => whnf))
    intro _ _
    conv => whnf
    refine ⟨fun hro => ?_, fun hro => ?_⟩
    · have hro : n.role = 2 := eq_of_beq hro
      have hr : beatR n = ⟨n, feedAllK n, 0⟩ := by unfold beatR; rw [if_pos hg, if_pos hro]
      conv => whnf
      intro A2 c2 m2 hS2
      have hcc2 : Cells m2 A2 (itemsV n.log.items) := .of_sealed hS2
      refine ⟨⟨n, A2, c2, [], m2⟩, ⟨hfine.fit, hfine.near, ⟨hcc2, hS2.le⟩, fun _ h => (by cases h), by show 0 < 800; omega⟩, ?_⟩
      conv => whnf
      repeat (first | exact trivial | (refine ⟨by first | exact ⟨rfl, rfl, rfl⟩ | rfl | exact ⟨rfl, rfl⟩ | exact ⟨rfl, fun _ _ => rfl⟩ | exact fun _ _ h => h | (intro _ _ h; cases h; done), ?_⟩; conv => whnf))
      rintro ⟨os3, m3⟩ ⟨hsince, hsaid3, hext3⟩ m4 h5 h6
      have how : Own m m4 A2 (n.log.items.length * 6) os3 := own_of (m1 := m) hS2 (fun _ h => (by cases h)) hsince (fun _ _ h => h) h5
      conv => whnf
      refine Or.inr ⟨[2], sc23_6, by kernel_rfl, ?_⟩
      conv => whnf
      repeat (first | exact trivial | (refine ⟨by first | exact ⟨rfl, rfl, rfl⟩ | rfl | exact ⟨rfl, rfl⟩ | exact ⟨rfl, fun _ _ => rfl⟩ | exact fun _ _ h => h | (intro _ _ h; cases h; done), ?_⟩; conv => whnf))
      intro A5 c5 m5 h7
      have hx := ext_trans (ext_trans hS2.ext h5) h7.ext
      refine ⟨⟨n, A2, c2, os3, A5, c5, m5⟩, ⟨by rw [hr], (since_nil hsince).trans (by rw [hr] <;> rfl), ⟨(hcc2.ext h5).ext h7.ext, hS2.le⟩, ⟨.of_sealed h7, h7.le⟩, (hsaid3.ext h6).ext h7.ext, hx, news_st how h7 (hsaid3.ext h6) (hsince.back hS2.ext).fresh (ext_trans hS2.ext h5)⟩, ?_⟩
      conv => whnf
      repeat (first | exact trivial | exact fun _ _ h => h | (refine ⟨by first | exact ⟨rfl, rfl, rfl⟩ | rfl | exact ⟨rfl, rfl⟩ | exact ⟨rfl, fun _ _ => rfl⟩ | exact fun _ _ h => h | (intro _ _ h; cases h; done) | (rw [hr] <;> rfl), ?_⟩; conv => whnf))
      exact ⟨hx, fun _ _ h => h⟩
    · have hro : ¬ n.role = 2 := by simpa using hro
      have hr : beatR n = ⟨n, [], 0⟩ := by unfold beatR; rw [if_pos hg, if_neg hro]
      conv => whnf
      refine Or.inr ⟨[2], sc23_6, by kernel_rfl, ?_⟩
      conv => whnf
      repeat (first | exact trivial | (refine ⟨by first | exact ⟨rfl, rfl, rfl⟩ | rfl | exact ⟨rfl, rfl⟩ | exact ⟨rfl, fun _ _ => rfl⟩ | exact fun _ _ h => h | (intro _ _ h; cases h; done), ?_⟩; conv => whnf))
      intro A1 c1 m1 h1
      refine ⟨⟨n, A1, c1, [], none, 0, m1⟩, ⟨by rw [hr], by rw [hr] <;> rfl, ⟨.of_sealed h1, h1.le⟩, ⟨Cells.nil _ _, Nat.le_refl _⟩, fun _ h => (by cases h), h1.ext, news_one h1⟩, ?_⟩
      conv => whnf
      repeat (first | exact trivial | exact fun _ _ h => h | (refine ⟨by first | exact ⟨rfl, rfl, rfl⟩ | rfl | exact ⟨rfl, rfl⟩ | exact ⟨rfl, fun _ _ => rfl⟩ | exact fun _ _ h => h | (intro _ _ h; cases h; done) | (rw [hr] <;> rfl), ?_⟩; conv => whnf))
      exact ⟨h1.ext, fun _ _ h => h⟩
set_option maxRecDepth 100000 in
set_option maxHeartbeats 1600000 in
theorem refBeat_ok : SpecOk Try.prog 25 (turnSpec beatR) := by
  refine spec_of_exec (fn := Try.f25) (c := Try.f25.body.getD .skip) (d := 0) (lv := ([0, 1, 2, 3, 4, 5, 8, 14])) (DP := DPx T1 (CPs S19) ([0, 1, 2, 3, 4, 5, 8, 14])) T1_ok S19_ok (fun B => DPx_ok T1_ok ord S19_ok B) (turnSpec beatR) (by rfl) (by rfl) (by rfl) (fun _ => Nat.le_of_ble_eq_true (by kernel_rfl)) ?_
  rintro ⟨n, A, c, m⟩ ⟨hM, hcap, hl⟩
  conv => whnf
  refine ⟨⟨n, A, c, m⟩, ⟨hM, hl⟩, ?_⟩
  conv => whnf
  repeat (first | exact trivial | (refine ⟨by first | exact ⟨rfl, rfl, rfl⟩ | rfl | exact ⟨rfl, rfl⟩ | exact ⟨rfl, fun _ _ => rfl⟩ | exact fun _ _ h => h | (intro _ _ h; cases h; done), ?_⟩; conv => whnf))
  intro _ _
  conv => whnf
  refine ⟨fun hg => ?_, fun hg => ?_⟩
  · have hg : goodB n = false := by simpa using hg
    have hr : beatR n = ⟨zeroN, [], 1⟩ := by unfold beatR; rw [if_neg (by rw [hg]; decide)]
    conv => whnf
    refine ⟨⟨zeroN, none, 0, [], none, 0, m⟩, ⟨by rw [hr], by rw [hr] <;> rfl, ⟨Cells.nil _ _, Nat.le_refl _⟩, ⟨Cells.nil _ _, Nat.le_refl _⟩, fun _ h => (by cases h), fun _ _ h => h, news_err⟩, ?_⟩
    conv => whnf
    repeat (first | exact trivial | exact fun _ _ h => h | (refine ⟨by first | exact ⟨rfl, rfl, rfl⟩ | rfl | exact ⟨rfl, rfl⟩ | exact ⟨rfl, fun _ _ => rfl⟩ | exact fun _ _ h => h | (intro _ _ h; cases h; done) | (rw [hr] <;> rfl), ?_⟩; conv => whnf))
  · have hg : goodB n = true := by simpa using hg
    have hfine := fine_iff.1 hg
    have hlen := hfine.l
    conv => whnf
    refine ⟨⟨n, A, c, m⟩, ⟨hM, by show n.log.items.length ≤ 2 ^ 40; omega⟩, ?_⟩
    conv => whnf
    repeat (first | exact trivial | (refine ⟨by first | exact ⟨rfl, rfl, rfl⟩ | rfl | exact ⟨rfl, rfl⟩ | exact ⟨rfl, fun _ _ => rfl⟩ | exact fun _ _ h => h | (intro _ _ h; cases h; done), ?_⟩; conv => whnf))
    intro _ _
    conv => whnf
    refine ⟨fun hro => ?_, fun hro => ?_⟩
    · have hro : n.role = 2 := eq_of_beq hro
      have hr : beatR n = ⟨n, feedAllK n, 0⟩ := by unfold beatR; rw [if_pos hg, if_pos hro]
      conv => whnf
      intro A2 c2 m2 hS2
      have hcc2 : Cells m2 A2 (itemsV n.log.items) := .of_sealed hS2
      refine ⟨⟨n, A2, c2, [], m2⟩, ⟨hfine.fit, hfine.near, ⟨hcc2, hS2.le⟩, fun _ h => (by cases h), by show 0 < 800; omega⟩, ?_⟩
      conv => whnf
      repeat (first | exact trivial | (refine ⟨by first | exact ⟨rfl, rfl, rfl⟩ | rfl | exact ⟨rfl, rfl⟩ | exact ⟨rfl, fun _ _ => rfl⟩ | exact fun _ _ h => h | (intro _ _ h; cases h; done), ?_⟩; conv => whnf))
      rintro ⟨os3, m3⟩ ⟨hsince, hsaid3, hext3⟩ m4 h5 h6
      have how : Own m m4 A2 (n.log.items.length * 6) os3 := own_of (m1 := m) hS2 (fun _ h => (by cases h)) hsince (fun _ _ h => h) h5
      conv => whnf
      refine Or.inr ⟨[2], sc25_6, by kernel_rfl, ?_⟩
      conv => whnf
      repeat (first | exact trivial | (refine ⟨by first | exact ⟨rfl, rfl, rfl⟩ | rfl | exact ⟨rfl, rfl⟩ | exact ⟨rfl, fun _ _ => rfl⟩ | exact fun _ _ h => h | (intro _ _ h; cases h; done), ?_⟩; conv => whnf))
      intro A5 c5 m5 h7
      have hx := ext_trans (ext_trans hS2.ext h5) h7.ext
      refine ⟨⟨n, A2, c2, os3, A5, c5, m5⟩, ⟨by rw [hr], (since_nil hsince).trans (by rw [hr] <;> rfl), ⟨(hcc2.ext h5).ext h7.ext, hS2.le⟩, ⟨.of_sealed h7, h7.le⟩, (hsaid3.ext h6).ext h7.ext, hx, news_st how h7 (hsaid3.ext h6) (hsince.back hS2.ext).fresh (ext_trans hS2.ext h5)⟩, ?_⟩
      conv => whnf
      repeat (first | exact trivial | exact fun _ _ h => h | (refine ⟨by first | exact ⟨rfl, rfl, rfl⟩ | rfl | exact ⟨rfl, rfl⟩ | exact ⟨rfl, fun _ _ => rfl⟩ | exact fun _ _ h => h | (intro _ _ h; cases h; done) | (rw [hr] <;> rfl), ?_⟩; conv => whnf))
      exact ⟨hx, fun _ _ h => h⟩
    · have hro : ¬ n.role = 2 := by simpa using hro
      have hr : beatR n = ⟨n, [], 0⟩ := by unfold beatR; rw [if_pos hg, if_neg hro]
      conv => whnf
      refine Or.inr ⟨[2], sc25_6, by kernel_rfl, ?_⟩
      conv => whnf
      repeat (first | exact trivial | (refine ⟨by first | exact ⟨rfl, rfl, rfl⟩ | rfl | exact ⟨rfl, rfl⟩ | exact ⟨rfl, fun _ _ => rfl⟩ | exact fun _ _ h => h | (intro _ _ h; cases h; done), ?_⟩; conv => whnf))
      intro A1 c1 m1 h1
      refine ⟨⟨n, A1, c1, [], none, 0, m1⟩, ⟨by rw [hr], by rw [hr] <;> rfl, ⟨.of_sealed h1, h1.le⟩, ⟨Cells.nil _ _, Nat.le_refl _⟩, fun _ h => (by cases h), h1.ext, news_one h1⟩, ?_⟩
      conv => whnf
      repeat (first | exact trivial | exact fun _ _ h => h | (refine ⟨by first | exact ⟨rfl, rfl, rfl⟩ | rfl | exact ⟨rfl, rfl⟩ | exact ⟨rfl, fun _ _ => rfl⟩ | exact fun _ _ h => h | (intro _ _ h; cases h; done) | (rw [hr] <;> rfl), ?_⟩; conv => whnf))
      exact ⟨h1.ext, fun _ _ h => h⟩
/-! ### Propose -/
structure PropR where
  n : Node
  last : Int
  ks : List Msg
  e : Int
def proposeR (n : Node) (e : Entry) : PropR :=
  if goodB n = true ∧ validB e = true then
    if n.role = 2 then
      if n.log.items.length < 256 then ⟨putN n e, lastI n + 1, feedAllK (putN n e), 0⟩ else ⟨zeroN, 0, [], 36⟩
    else ⟨zeroN, 0, [], 70⟩
  else ⟨zeroN, 0, [], 1⟩
structure PropG where
  n : Node
  A : Option Addr
  c : Nat
  e : Entry
  m : Mem
def propSpec : Spec where
  A := PropG
  R := fun ⟨n, A, c, _, m⟩ => Cells m A (itemsV n.log.items) ∧ n.log.items.length ≤ c ∧ n.log.items.length < 2 ^ 62
  J := fun ⟨_, _, _, _, m⟩ => m
  args := fun ⟨n, A, c, e, _⟩ => [.g (nodeC n (.sl A n.log.items.length c)), .g (entryC e)]
  h := fun _ => []
  nx := 0
  Bb := StepB
  C := fun ⟨n, _, _, e, m⟩ b => b.n = (proposeR n e).n ∧ b.os.map (·.k) = (proposeR n e).ks ∧ Told m b
  out := fun ⟨n, _, _, e, _⟩ b => .ret (.t [.g (nodeC b.n (.sl b.A b.n.log.items.length b.c)), .i .i64 (proposeR n e).last, .sl b.O b.os.length b.oc, .i .i64 (proposeR n e).e])
  h2 := fun _ _ => []
  nx2 := 0
  J2 := fun _ b => b.m
  ext := true
  md := 2
  so := true
theorem put_last {n : Node} {e : Entry} (h : Fine n) : (lastN (putN n e).log).1 = lastI n + 1 := by
  have hl : ((putN n e).log.items.length : Int) = n.log.items.length + 1 := by show ((n.log.items ++ [_]).length : Int) = _; rw [List.length_append]; rfl
  have hx : (putN n e).log.items[(putN n e).log.items.length - 1]? = some ⟨n.log.term, e⟩ := by
    show (n.log.items ++ [_])[(n.log.items ++ [_]).length - 1]? = _
    rw [List.length_append]
    simp
  rw [lastN_pos hx]
  have := h.b1; have := h.b2; have := h.l
  show IntKind.i64.wrap (n.log.base + ((putN n e).log.items.length : Int)) = n.log.base + (n.log.items.length : Int) + 1
  rw [hl, wrapi ⟨by omega, by omega⟩]; omega
set_option maxRecDepth 100000 in
set_option maxHeartbeats 1600000 in
theorem propose_ok : SpecOk Try.prog 27 propSpec := by
  refine spec_of_exec (fn := Try.f27) (c := Try.f27.body.getD .skip) (d := 0) (lv := ([0, 1, 2, 3, 4, 5, 6, 7, 8, 9, 11, 21, 26])) (DP := DPx T1 (CPs S19) ([0, 1, 2, 3, 4, 5, 6, 7, 8, 9, 11, 21, 26])) T1_ok S19_ok (fun B => DPx_ok T1_ok ord S19_ok B) propSpec (by rfl) (by rfl) (by rfl) (fun _ => Nat.le_of_ble_eq_true (by kernel_rfl)) ?_
  rintro ⟨n, A, c, e, m⟩ ⟨hM, hcap, hl⟩
  conv => whnf
  refine ⟨⟨n, A, c, m⟩, ⟨hM, hl⟩, ?_⟩
  conv => whnf
  repeat (first | exact trivial | (refine ⟨by first | exact ⟨rfl, rfl, rfl⟩ | rfl | exact ⟨rfl, rfl⟩ | exact ⟨rfl, fun _ _ => rfl⟩ | exact fun _ _ h => h | (intro _ _ h; cases h; done), ?_⟩; conv => whnf))
  intro _ _
  conv => whnf
  refine ⟨fun hg => ?_, fun hg => ?_⟩
  · have hg : goodB n = false := by simpa using hg
    have hr : proposeR n e = ⟨zeroN, 0, [], 1⟩ := by unfold proposeR; rw [if_neg (fun h => by rw [hg] at h; cases h.1)]
    conv => whnf
    refine ⟨fun _ => ?_, fun h => (by cases h)⟩
    conv => whnf
    conv => whnf
    refine ⟨⟨zeroN, none, 0, [], none, 0, m⟩, ⟨by rw [hr], by rw [hr] <;> rfl, ⟨Cells.nil _ _, Nat.le_refl _⟩, ⟨Cells.nil _ _, Nat.le_refl _⟩, fun _ h => (by cases h), fun _ _ h => h, news_err⟩, ?_⟩
    conv => whnf
    repeat (first | exact trivial | exact fun _ _ h => h | (refine ⟨by first | exact ⟨rfl, rfl, rfl⟩ | rfl | exact ⟨rfl, rfl⟩ | exact ⟨rfl, fun _ _ => rfl⟩ | exact fun _ _ h => h | (intro _ _ h; cases h; done) | (rw [hr] <;> rfl), ?_⟩; conv => whnf))
  · have hg : goodB n = true := by simpa using hg
    have hfine := fine_iff.1 hg
    have hlen := hfine.l
    conv => whnf
    refine ⟨e, trivial, ?_⟩
    conv => whnf
    repeat (first | exact trivial | (refine ⟨by first | exact ⟨rfl, rfl, rfl⟩ | rfl | exact ⟨rfl, rfl⟩ | exact ⟨rfl, fun _ _ => rfl⟩ | exact fun _ _ h => h | (intro _ _ h; cases h; done), ?_⟩; conv => whnf))
    intro _ _
    conv => whnf
    refine ⟨fun hv => ?_, fun hv => ?_⟩
    · have hv : validB e = false := by simpa using hv
      have hr : proposeR n e = ⟨zeroN, 0, [], 1⟩ := by unfold proposeR; rw [if_neg (fun h => by rw [hv] at h; cases h.2)]
      conv => whnf
      refine ⟨⟨zeroN, none, 0, [], none, 0, m⟩, ⟨by rw [hr], by rw [hr] <;> rfl, ⟨Cells.nil _ _, Nat.le_refl _⟩, ⟨Cells.nil _ _, Nat.le_refl _⟩, fun _ h => (by cases h), fun _ _ h => h, news_err⟩, ?_⟩
      conv => whnf
      repeat (first | exact trivial | exact fun _ _ h => h | (refine ⟨by first | exact ⟨rfl, rfl, rfl⟩ | rfl | exact ⟨rfl, rfl⟩ | exact ⟨rfl, fun _ _ => rfl⟩ | exact fun _ _ h => h | (intro _ _ h; cases h; done) | (rw [hr] <;> rfl), ?_⟩; conv => whnf))
    · have hv : validB e = true := by simpa using hv
      conv => whnf
      refine ⟨fun hro => ?_, fun hro => ?_⟩
      · have hro : ¬ n.role = 2 := by simpa using hro
        have hr : proposeR n e = ⟨zeroN, 0, [], 70⟩ := by unfold proposeR; rw [if_pos ⟨hg, hv⟩, if_neg hro]
        conv => whnf
        refine ⟨⟨zeroN, none, 0, [], none, 0, m⟩, ⟨by rw [hr], by rw [hr] <;> rfl, ⟨Cells.nil _ _, Nat.le_refl _⟩, ⟨Cells.nil _ _, Nat.le_refl _⟩, fun _ h => (by cases h), fun _ _ h => h, news_err⟩, ?_⟩
        conv => whnf
        repeat (first | exact trivial | exact fun _ _ h => h | (refine ⟨by first | exact ⟨rfl, rfl, rfl⟩ | rfl | exact ⟨rfl, rfl⟩ | exact ⟨rfl, fun _ _ => rfl⟩ | exact fun _ _ h => h | (intro _ _ h; cases h; done) | (rw [hr] <;> rfl), ?_⟩; conv => whnf))
      · have hro : n.role = 2 := by simpa using hro
        conv => whnf
        refine ⟨fun hb => ?_, fun hb => ?_⟩
        · have hb : ¬ n.log.items.length < 256 := by have h2 : (n.log.items.length : Int) ≥ 256 := of_decide_eq_true hb; omega
          have hr : proposeR n e = ⟨zeroN, 0, [], 36⟩ := by unfold proposeR; rw [if_pos ⟨hg, hv⟩, if_pos hro, if_neg hb]
          conv => whnf
          refine ⟨⟨zeroN, none, 0, [], none, 0, m⟩, ⟨by rw [hr], by rw [hr] <;> rfl, ⟨Cells.nil _ _, Nat.le_refl _⟩, ⟨Cells.nil _ _, Nat.le_refl _⟩, fun _ h => (by cases h), fun _ _ h => h, news_err⟩, ?_⟩
          conv => whnf
          repeat (first | exact trivial | exact fun _ _ h => h | (refine ⟨by first | exact ⟨rfl, rfl, rfl⟩ | rfl | exact ⟨rfl, rfl⟩ | exact ⟨rfl, fun _ _ => rfl⟩ | exact fun _ _ h => h | (intro _ _ h; cases h; done) | (rw [hr] <;> rfl), ?_⟩; conv => whnf))
        · have hb : n.log.items.length < 256 := by have h2 : ¬ (n.log.items.length : Int) ≥ 256 := of_decide_eq_false hb; omega
          have hr : proposeR n e = ⟨putN n e, lastI n + 1, feedAllK (putN n e), 0⟩ := by unfold proposeR; rw [if_pos ⟨hg, hv⟩, if_pos hro, if_pos hb]
          have hpl := put_last (e := e) hfine
          have hc2 := hfine.c2
          have hpll : (putN n e).log.items.length ≤ 256 := by show (n.log.items ++ [_]).length ≤ 256; rw [List.length_append]; show _ + 1 ≤ 256; omega
          conv => whnf
          refine ⟨⟨n, A, c, m⟩, ⟨hM, by show n.log.items.length ≤ 2 ^ 40; omega⟩, ?_⟩
          conv => whnf
          repeat (first | exact trivial | (refine ⟨by first | exact ⟨rfl, rfl, rfl⟩ | rfl | exact ⟨rfl, rfl⟩ | exact ⟨rfl, fun _ _ => rfl⟩ | exact fun _ _ h => h | (intro _ _ h; cases h; done), ?_⟩; conv => whnf))
          intro _ _
          conv => whnf
          refine ⟨⟨n, e, [], m⟩, ⟨hfine.fit, by show n.log.items.length ≤ 299; omega, hc2, hfine.near, lay_mono hfine hv, fun _ h => (by cases h), by show 0 < 700; omega⟩, ?_⟩
          conv => whnf
          repeat (first | exact trivial | (refine ⟨by first | exact ⟨rfl, rfl, rfl⟩ | rfl | exact ⟨rfl, rfl⟩ | exact ⟨rfl, fun _ _ => rfl⟩ | exact fun _ _ h => h | (intro _ _ h; cases h; done), ?_⟩; conv => whnf))
          rintro ⟨n', A2, c2, os2, m2⟩ ⟨rfl, hsince, hsaid, ⟨hcc, hcp, how⟩, hext⟩ m3 h3 h4
          conv => whnf
          refine ⟨⟨(putN n e).log, A2, c2, m3⟩, ⟨hcc.ext h4, by show (putN n e).log.items.length < 2 ^ 62; omega⟩, ?_⟩
          conv => whnf
          repeat (first | exact trivial | (refine ⟨by first | exact ⟨rfl, rfl, rfl⟩ | rfl | exact ⟨rfl, rfl⟩ | exact ⟨rfl, fun _ _ => rfl⟩ | exact fun _ _ h => h | (intro _ _ h; cases h; done), ?_⟩; conv => whnf))
          intro _ _
          conv => whnf
          refine Or.inr ⟨[3], sc27_10, by kernel_rfl, ?_⟩
          conv => whnf
          repeat (first | exact trivial | (refine ⟨by first | exact ⟨rfl, rfl, rfl⟩ | rfl | exact ⟨rfl, rfl⟩ | exact ⟨rfl, fun _ _ => rfl⟩ | exact fun _ _ h => h | (intro _ _ h; cases h; done), ?_⟩; conv => whnf))
          intro A5 c5 m5 h5
          have hx := ext_trans h3 h5.ext
          refine ⟨⟨putN n e, A2, c2, os2, A5, c5, m5⟩, ⟨by rw [hr], (since_nil hsince).trans (by rw [hr] <;> rfl), ⟨(hcc.ext h4).ext h5.ext, hcp⟩, ⟨.of_sealed h5, h5.le⟩, (hsaid.ext h4).ext h5.ext, hx, news_st ⟨how.1.ext h4, how.2⟩ h5 (hsaid.ext h4) hsince.fresh h3⟩, ?_⟩
          conv => whnf
          repeat (first | exact trivial | exact fun _ _ h => h | (refine ⟨by first | exact ⟨rfl, rfl, rfl⟩ | rfl | exact ⟨rfl, rfl⟩ | exact ⟨rfl, fun _ _ => rfl⟩ | exact fun _ _ h => h | (intro _ _ h; cases h; done) | (rw [hr] <;> rfl) | (rw [hr]; exact hpl), ?_⟩; conv => whnf))
          exact ⟨hx, fun _ _ h => h⟩
set_option maxRecDepth 100000 in
set_option maxHeartbeats 1600000 in
theorem refPropose_ok : SpecOk Try.prog 29 propSpec := by
  refine spec_of_exec (fn := Try.f29) (c := Try.f29.body.getD .skip) (d := 0) (lv := ([0, 1, 2, 3, 4, 5, 6, 7, 8, 9, 18, 22, 28])) (DP := DPx T1 (CPs S19) ([0, 1, 2, 3, 4, 5, 6, 7, 8, 9, 18, 22, 28])) T1_ok S19_ok (fun B => DPx_ok T1_ok ord S19_ok B) propSpec (by rfl) (by rfl) (by rfl) (fun _ => Nat.le_of_ble_eq_true (by kernel_rfl)) ?_
  rintro ⟨n, A, c, e, m⟩ ⟨hM, hcap, hl⟩
  conv => whnf
  refine ⟨⟨n, A, c, m⟩, ⟨hM, hl⟩, ?_⟩
  conv => whnf
  repeat (first | exact trivial | (refine ⟨by first | exact ⟨rfl, rfl, rfl⟩ | rfl | exact ⟨rfl, rfl⟩ | exact ⟨rfl, fun _ _ => rfl⟩ | exact fun _ _ h => h | (intro _ _ h; cases h; done), ?_⟩; conv => whnf))
  intro _ _
  conv => whnf
  refine ⟨fun hg => ?_, fun hg => ?_⟩
  · have hg : goodB n = false := by simpa using hg
    have hr : proposeR n e = ⟨zeroN, 0, [], 1⟩ := by unfold proposeR; rw [if_neg (fun h => by rw [hg] at h; cases h.1)]
    conv => whnf
    refine ⟨fun _ => ?_, fun h => (by cases h)⟩
    conv => whnf
    conv => whnf
    refine ⟨⟨zeroN, none, 0, [], none, 0, m⟩, ⟨by rw [hr], by rw [hr] <;> rfl, ⟨Cells.nil _ _, Nat.le_refl _⟩, ⟨Cells.nil _ _, Nat.le_refl _⟩, fun _ h => (by cases h), fun _ _ h => h, news_err⟩, ?_⟩
    conv => whnf
    repeat (first | exact trivial | exact fun _ _ h => h | (refine ⟨by first | exact ⟨rfl, rfl, rfl⟩ | rfl | exact ⟨rfl, rfl⟩ | exact ⟨rfl, fun _ _ => rfl⟩ | exact fun _ _ h => h | (intro _ _ h; cases h; done) | (rw [hr] <;> rfl), ?_⟩; conv => whnf))
  · have hg : goodB n = true := by simpa using hg
    have hfine := fine_iff.1 hg
    have hlen := hfine.l
    conv => whnf
    refine ⟨e, trivial, ?_⟩
    conv => whnf
    repeat (first | exact trivial | (refine ⟨by first | exact ⟨rfl, rfl, rfl⟩ | rfl | exact ⟨rfl, rfl⟩ | exact ⟨rfl, fun _ _ => rfl⟩ | exact fun _ _ h => h | (intro _ _ h; cases h; done), ?_⟩; conv => whnf))
    intro _ _
    conv => whnf
    refine ⟨fun hv => ?_, fun hv => ?_⟩
    · have hv : validB e = false := by simpa using hv
      have hr : proposeR n e = ⟨zeroN, 0, [], 1⟩ := by unfold proposeR; rw [if_neg (fun h => by rw [hv] at h; cases h.2)]
      conv => whnf
      refine ⟨⟨zeroN, none, 0, [], none, 0, m⟩, ⟨by rw [hr], by rw [hr] <;> rfl, ⟨Cells.nil _ _, Nat.le_refl _⟩, ⟨Cells.nil _ _, Nat.le_refl _⟩, fun _ h => (by cases h), fun _ _ h => h, news_err⟩, ?_⟩
      conv => whnf
      repeat (first | exact trivial | exact fun _ _ h => h | (refine ⟨by first | exact ⟨rfl, rfl, rfl⟩ | rfl | exact ⟨rfl, rfl⟩ | exact ⟨rfl, fun _ _ => rfl⟩ | exact fun _ _ h => h | (intro _ _ h; cases h; done) | (rw [hr] <;> rfl), ?_⟩; conv => whnf))
    · have hv : validB e = true := by simpa using hv
      conv => whnf
      refine ⟨fun hro => ?_, fun hro => ?_⟩
      · have hro : ¬ n.role = 2 := by simpa using hro
        have hr : proposeR n e = ⟨zeroN, 0, [], 70⟩ := by unfold proposeR; rw [if_pos ⟨hg, hv⟩, if_neg hro]
        conv => whnf
        refine ⟨⟨zeroN, none, 0, [], none, 0, m⟩, ⟨by rw [hr], by rw [hr] <;> rfl, ⟨Cells.nil _ _, Nat.le_refl _⟩, ⟨Cells.nil _ _, Nat.le_refl _⟩, fun _ h => (by cases h), fun _ _ h => h, news_err⟩, ?_⟩
        conv => whnf
        repeat (first | exact trivial | exact fun _ _ h => h | (refine ⟨by first | exact ⟨rfl, rfl, rfl⟩ | rfl | exact ⟨rfl, rfl⟩ | exact ⟨rfl, fun _ _ => rfl⟩ | exact fun _ _ h => h | (intro _ _ h; cases h; done) | (rw [hr] <;> rfl), ?_⟩; conv => whnf))
      · have hro : n.role = 2 := by simpa using hro
        conv => whnf
        refine ⟨fun hb => ?_, fun hb => ?_⟩
        · have hb : ¬ n.log.items.length < 256 := by have h2 : (n.log.items.length : Int) ≥ 256 := of_decide_eq_true hb; omega
          have hr : proposeR n e = ⟨zeroN, 0, [], 36⟩ := by unfold proposeR; rw [if_pos ⟨hg, hv⟩, if_pos hro, if_neg hb]
          conv => whnf
          refine ⟨⟨zeroN, none, 0, [], none, 0, m⟩, ⟨by rw [hr], by rw [hr] <;> rfl, ⟨Cells.nil _ _, Nat.le_refl _⟩, ⟨Cells.nil _ _, Nat.le_refl _⟩, fun _ h => (by cases h), fun _ _ h => h, news_err⟩, ?_⟩
          conv => whnf
          repeat (first | exact trivial | exact fun _ _ h => h | (refine ⟨by first | exact ⟨rfl, rfl, rfl⟩ | rfl | exact ⟨rfl, rfl⟩ | exact ⟨rfl, fun _ _ => rfl⟩ | exact fun _ _ h => h | (intro _ _ h; cases h; done) | (rw [hr] <;> rfl), ?_⟩; conv => whnf))
        · have hb : n.log.items.length < 256 := by have h2 : ¬ (n.log.items.length : Int) ≥ 256 := of_decide_eq_false hb; omega
          have hr : proposeR n e = ⟨putN n e, lastI n + 1, feedAllK (putN n e), 0⟩ := by unfold proposeR; rw [if_pos ⟨hg, hv⟩, if_pos hro, if_pos hb]
          have hpl := put_last (e := e) hfine
          have hc2 := hfine.c2
          have hpll : (putN n e).log.items.length ≤ 256 := by show (n.log.items ++ [_]).length ≤ 256; rw [List.length_append]; show _ + 1 ≤ 256; omega
          conv => whnf
          refine ⟨⟨n, A, c, m⟩, ⟨hM, by show n.log.items.length ≤ 2 ^ 40; omega⟩, ?_⟩
          conv => whnf
          repeat (first | exact trivial | (refine ⟨by first | exact ⟨rfl, rfl, rfl⟩ | rfl | exact ⟨rfl, rfl⟩ | exact ⟨rfl, fun _ _ => rfl⟩ | exact fun _ _ h => h | (intro _ _ h; cases h; done), ?_⟩; conv => whnf))
          intro _ _
          conv => whnf
          refine ⟨⟨n, e, [], m⟩, ⟨hfine.fit, by show n.log.items.length ≤ 299; omega, hc2, hfine.near, lay_mono hfine hv, fun _ h => (by cases h), by show 0 < 700; omega⟩, ?_⟩
          conv => whnf
          repeat (first | exact trivial | (refine ⟨by first | exact ⟨rfl, rfl, rfl⟩ | rfl | exact ⟨rfl, rfl⟩ | exact ⟨rfl, fun _ _ => rfl⟩ | exact fun _ _ h => h | (intro _ _ h; cases h; done), ?_⟩; conv => whnf))
          rintro ⟨n', A2, c2, os2, m2⟩ ⟨rfl, hsince, hsaid, ⟨hcc, hcp, how⟩, hext⟩ m3 h3 h4
          conv => whnf
          refine ⟨⟨(putN n e).log, A2, c2, m3⟩, ⟨hcc.ext h4, by show (putN n e).log.items.length < 2 ^ 62; omega⟩, ?_⟩
          conv => whnf
          repeat (first | exact trivial | (refine ⟨by first | exact ⟨rfl, rfl, rfl⟩ | rfl | exact ⟨rfl, rfl⟩ | exact ⟨rfl, fun _ _ => rfl⟩ | exact fun _ _ h => h | (intro _ _ h; cases h; done), ?_⟩; conv => whnf))
          intro _ _
          conv => whnf
          refine Or.inr ⟨[3], sc29_10, by kernel_rfl, ?_⟩
          conv => whnf
          repeat (first | exact trivial | (refine ⟨by first | exact ⟨rfl, rfl, rfl⟩ | rfl | exact ⟨rfl, rfl⟩ | exact ⟨rfl, fun _ _ => rfl⟩ | exact fun _ _ h => h | (intro _ _ h; cases h; done), ?_⟩; conv => whnf))
          intro A5 c5 m5 h5
          have hx := ext_trans h3 h5.ext
          refine ⟨⟨putN n e, A2, c2, os2, A5, c5, m5⟩, ⟨by rw [hr], (since_nil hsince).trans (by rw [hr] <;> rfl), ⟨(hcc.ext h4).ext h5.ext, hcp⟩, ⟨.of_sealed h5, h5.le⟩, (hsaid.ext h4).ext h5.ext, hx, news_st ⟨how.1.ext h4, how.2⟩ h5 (hsaid.ext h4) hsince.fresh h3⟩, ?_⟩
          conv => whnf
          repeat (first | exact trivial | exact fun _ _ h => h | (refine ⟨by first | exact ⟨rfl, rfl, rfl⟩ | rfl | exact ⟨rfl, rfl⟩ | exact ⟨rfl, fun _ _ => rfl⟩ | exact fun _ _ h => h | (intro _ _ h; cases h; done) | (rw [hr] <;> rfl) | (rw [hr]; exact hpl), ?_⟩; conv => whnf))
          exact ⟨hx, fun _ _ h => h⟩
/-! ### Compact -/
def cutR (n : Node) (i : Int) (b : ByteArray) : Node := { n with log := { n.log with base := i, baseTerm := (termAtN n.log i).1, book := b, items := n.log.items.drop (i - n.log.base).toNat } }
def compactR (n : Node) (i : Int) (b : ByteArray) : StepR := if goodB n = true ∧ n.log.base < i ∧ i ≤ n.commit then ⟨cutR n i b, [], 0⟩ else ⟨zeroN, [], 1⟩
structure CompG where
  n : Node
  A : Option Addr
  c : Nat
  i : Int
  b : ByteArray
  m : Mem
def compSpec : Spec where
  A := CompG
  R := fun ⟨n, A, c, _, _, m⟩ => Cells m A (itemsV n.log.items) ∧ n.log.items.length ≤ c ∧ n.log.items.length < 2 ^ 62
  J := fun ⟨_, _, _, _, _, m⟩ => m
  args := fun ⟨n, A, c, i, b, _⟩ => [.g (nodeC n (.sl A n.log.items.length c)), .i .i64 i, .s b]
  h := fun _ => []
  nx := 0
  Bb := NewB
  C := fun ⟨n, _, _, i, b, m⟩ r => r.n = (compactR n i b).n ∧ (Cells r.m r.A (itemsV r.n.log.items) ∧ r.n.log.items.length ≤ r.c) ∧ ∀ x o, m x = some o → r.m x = some o
  out := fun ⟨n, _, _, i, b, _⟩ r => .ret (.t [.g (nodeC r.n (.sl r.A r.n.log.items.length r.c)), .i .i64 (compactR n i b).e])
  h2 := fun _ _ => []
  nx2 := 0
  J2 := fun _ r => r.m
  ext := true
  md := 2
  so := true
set_option maxRecDepth 100000 in
set_option maxHeartbeats 1600000 in
theorem compact_ok : SpecOk Try.prog 30 compSpec := by
  refine spec_of_exec (fn := Try.f30) (c := Try.f30.body.getD .skip) (d := 0) (lv := ([0, 1, 2, 3, 6, 7, 8, 9, 26])) (DP := DPx T1 (CPs S19) ([0, 1, 2, 3, 6, 7, 8, 9, 26])) T1_ok S19_ok (fun B => DPx_ok T1_ok ord S19_ok B) compSpec (by rfl) (by rfl) (by rfl) (fun _ => Nat.le_of_ble_eq_true (by kernel_rfl)) ?_
  rintro ⟨n, A, c, i, b, m⟩ ⟨hM, hcap, hl⟩
  conv => whnf
  refine ⟨⟨n, A, c, m⟩, ⟨hM, hl⟩, ?_⟩
  conv => whnf
  repeat (first | exact trivial | (refine ⟨by first | exact ⟨rfl, rfl, rfl⟩ | rfl | exact ⟨rfl, rfl⟩ | exact ⟨rfl, fun _ _ => rfl⟩ | exact fun _ _ h => h | (intro _ _ h; cases h; done), ?_⟩; conv => whnf))
  intro _ _
  conv => whnf
  refine ⟨fun hbad => ?_, fun hok => ?_⟩
  · have hbad : ¬ (goodB n = true ∧ n.log.base < i ∧ i ≤ n.commit) := by
      simp only [ifor] at hbad
      rintro ⟨h1, h2, h3⟩
      rw [h1] at hbad
      simp at hbad
      omega
    have hr : compactR n i b = ⟨zeroN, [], 1⟩ := by unfold compactR; rw [if_neg hbad]
    conv => whnf
    refine ⟨⟨zeroN, none, 0, m⟩, ⟨by rw [hr], ⟨Cells.nil _ _, Nat.le_refl _⟩, fun _ _ h => h⟩, ?_⟩
    conv => whnf
    repeat (first | exact trivial | exact fun _ _ h => h | (refine ⟨by first | exact ⟨rfl, rfl, rfl⟩ | rfl | exact ⟨rfl, rfl⟩ | exact ⟨rfl, fun _ _ => rfl⟩ | exact fun _ _ h => h | (intro _ _ h; cases h; done) | (rw [hr] <;> rfl), ?_⟩; conv => whnf))
  · have hok : goodB n = true ∧ n.log.base < i ∧ i ≤ n.commit := by
      simp only [ifor, Bool.or_eq_false_iff, decide_eq_false_iff_not] at hok
      have h1 : goodB n = true := by simpa using hok.1.1
      exact ⟨h1, by omega, by omega⟩
    have hr : compactR n i b = ⟨cutR n i b, [], 0⟩ := by unfold compactR; rw [if_pos hok]
    obtain ⟨hg, hi1, hi2⟩ := hok
    have hfine := fine_iff.1 hg
    have hlen := hfine.l
    have hb1 := hfine.b1
    have hb2 := hfine.b2
    have hc2 := hfine.c2
    have hli : lastI n = n.log.base + n.log.items.length := rfl
    obtain ⟨l, hl0⟩ : ∃ l : Nat, l = (i - n.log.base).toNat := ⟨_, rfl⟩
    have hll : l ≤ n.log.items.length := by omega
    have hwl : IntKind.i64.wrap (i - n.log.base) = (l : Int) := by rw [wrapi ⟨by omega, by omega⟩]; omega
    have hcut : (cutR n i b).log.items = n.log.items.drop l := by show n.log.items.drop _ = _; rw [← hl0]
    have hxl : n.log.items.length - l = (cutR n i b).log.items.length := by rw [hcut]; exact List.length_drop.symm
    conv => whnf
    refine ⟨⟨n, A, c, m⟩, ⟨hM, by show n.log.items.length ≤ 2 ^ 40; omega⟩, ?_⟩
    conv => whnf
    repeat (first | exact trivial | (refine ⟨by first | exact ⟨rfl, rfl, rfl⟩ | rfl | exact ⟨rfl, rfl⟩ | exact ⟨rfl, fun _ _ => rfl⟩ | exact fun _ _ h => h | (intro _ _ h; cases h; done), ?_⟩; conv => whnf))
    intro _ _
    conv => whnf
    intro A2 cap2 m2 hS2; refine ⟨⟨n.log, A2, cap2, i, m2⟩, ⟨.of_sealed hS2, by show n.log.items.length < 2 ^ 62; omega, ⟨by omega, by omega⟩, ⟨by omega, by omega⟩⟩, ?_⟩; conv => whnf
    repeat (first | exact trivial | (refine ⟨by first | exact ⟨rfl, rfl, rfl⟩ | rfl | exact ⟨rfl, rfl⟩ | exact ⟨rfl, fun _ _ => rfl⟩ | exact fun _ _ h => h | (intro _ _ h; cases h; done), ?_⟩; conv => whnf))
    intro _ _
    conv => whnf
    refine Or.inr ⟨[], sc30_5, by kernel_rfl, ?_⟩
    conv => whnf
    conv in (occs := *) (IntKind.wrap _ _) => all_goals rw [hwl]
    intro A3 cap3 m3 hS3
    have hc3 : Cells m3 A3 (itemsV n.log.items) := .of_sealed hS3
    repeat (first | exact trivial | (refine ⟨by first | exact ⟨rfl, rfl, rfl⟩ | rfl | exact ⟨rfl, rfl⟩ | exact ⟨rfl, fun _ _ => rfl⟩ | exact fun _ _ h => h | (intro _ _ h; cases h; done) | exact ⟨Int.natCast_nonneg _, by show (l : Int) ≤ (n.log.items.length : Int); omega⟩, ?_⟩; conv => whnf))
    have hcs := hc3.slice (c := cap3) (l := l) hS3.le
    rw [← hcut] at hcs
    refine ⟨⟨cutR n i b, if cap3 = (l : Int).toNat then A3 else A3.map (·.add ((l : Int).toNat * 6)), cap3 - (l : Int).toNat, m3⟩, ⟨by rw [hr], ⟨hcs, by rw [← hxl]; exact Nat.sub_le_sub_right hS3.le l⟩, hS3.ext⟩, ?_⟩
    conv => whnf
    repeat (first | exact trivial | exact fun _ _ h => h | (refine ⟨by first | exact ⟨rfl, rfl, rfl⟩ | rfl | exact ⟨rfl, rfl⟩ | exact ⟨rfl, fun _ _ => rfl⟩ | exact fun _ _ h => h | (intro _ _ h; cases h; done) | (rw [hr] <;> rfl) | exact ⟨rfl, hxl, rfl⟩, ?_⟩; conv => whnf))
    exact ⟨hS3.ext, fun _ _ h => h⟩
set_option maxRecDepth 100000 in
set_option maxHeartbeats 1600000 in
theorem refCompact_ok : SpecOk Try.prog 31 compSpec := by
  refine spec_of_exec (fn := Try.f31) (c := Try.f31.body.getD .skip) (d := 0) (lv := ([0, 1, 2, 3, 6, 7, 8, 9, 26])) (DP := DPx T1 (CPs S19) ([0, 1, 2, 3, 6, 7, 8, 9, 26])) T1_ok S19_ok (fun B => DPx_ok T1_ok ord S19_ok B) compSpec (by rfl) (by rfl) (by rfl) (fun _ => Nat.le_of_ble_eq_true (by kernel_rfl)) ?_
  rintro ⟨n, A, c, i, b, m⟩ ⟨hM, hcap, hl⟩
  conv => whnf
  refine ⟨⟨n, A, c, m⟩, ⟨hM, hl⟩, ?_⟩
  conv => whnf
  repeat (first | exact trivial | (refine ⟨by first | exact ⟨rfl, rfl, rfl⟩ | rfl | exact ⟨rfl, rfl⟩ | exact ⟨rfl, fun _ _ => rfl⟩ | exact fun _ _ h => h | (intro _ _ h; cases h; done), ?_⟩; conv => whnf))
  intro _ _
  conv => whnf
  refine ⟨fun hbad => ?_, fun hok => ?_⟩
  · have hbad : ¬ (goodB n = true ∧ n.log.base < i ∧ i ≤ n.commit) := by
      simp only [ifor] at hbad
      rintro ⟨h1, h2, h3⟩
      rw [h1] at hbad
      simp at hbad
      omega
    have hr : compactR n i b = ⟨zeroN, [], 1⟩ := by unfold compactR; rw [if_neg hbad]
    conv => whnf
    refine ⟨⟨zeroN, none, 0, m⟩, ⟨by rw [hr], ⟨Cells.nil _ _, Nat.le_refl _⟩, fun _ _ h => h⟩, ?_⟩
    conv => whnf
    repeat (first | exact trivial | exact fun _ _ h => h | (refine ⟨by first | exact ⟨rfl, rfl, rfl⟩ | rfl | exact ⟨rfl, rfl⟩ | exact ⟨rfl, fun _ _ => rfl⟩ | exact fun _ _ h => h | (intro _ _ h; cases h; done) | (rw [hr] <;> rfl), ?_⟩; conv => whnf))
  · have hok : goodB n = true ∧ n.log.base < i ∧ i ≤ n.commit := by
      simp only [ifor, Bool.or_eq_false_iff, decide_eq_false_iff_not] at hok
      have h1 : goodB n = true := by simpa using hok.1.1
      exact ⟨h1, by omega, by omega⟩
    have hr : compactR n i b = ⟨cutR n i b, [], 0⟩ := by unfold compactR; rw [if_pos hok]
    obtain ⟨hg, hi1, hi2⟩ := hok
    have hfine := fine_iff.1 hg
    have hlen := hfine.l
    have hb1 := hfine.b1
    have hb2 := hfine.b2
    have hc2 := hfine.c2
    have hli : lastI n = n.log.base + n.log.items.length := rfl
    obtain ⟨l, hl0⟩ : ∃ l : Nat, l = (i - n.log.base).toNat := ⟨_, rfl⟩
    have hll : l ≤ n.log.items.length := by omega
    have hwl : IntKind.i64.wrap (i - n.log.base) = (l : Int) := by rw [wrapi ⟨by omega, by omega⟩]; omega
    have hcut : (cutR n i b).log.items = n.log.items.drop l := by show n.log.items.drop _ = _; rw [← hl0]
    have hxl : n.log.items.length - l = (cutR n i b).log.items.length := by rw [hcut]; exact List.length_drop.symm
    conv => whnf
    refine ⟨⟨n, A, c, m⟩, ⟨hM, by show n.log.items.length ≤ 2 ^ 40; omega⟩, ?_⟩
    conv => whnf
    repeat (first | exact trivial | (refine ⟨by first | exact ⟨rfl, rfl, rfl⟩ | rfl | exact ⟨rfl, rfl⟩ | exact ⟨rfl, fun _ _ => rfl⟩ | exact fun _ _ h => h | (intro _ _ h; cases h; done), ?_⟩; conv => whnf))
    intro _ _
    conv => whnf
    refine ⟨⟨n.log, A, c, i, m⟩, ⟨hM, by show n.log.items.length < 2 ^ 62; omega, ⟨by omega, by omega⟩, ⟨by omega, by omega⟩⟩, ?_⟩; conv => whnf
    repeat (first | exact trivial | (refine ⟨by first | exact ⟨rfl, rfl, rfl⟩ | rfl | exact ⟨rfl, rfl⟩ | exact ⟨rfl, fun _ _ => rfl⟩ | exact fun _ _ h => h | (intro _ _ h; cases h; done), ?_⟩; conv => whnf))
    intro _ _
    conv => whnf
    refine Or.inr ⟨[], sc31_5, by kernel_rfl, ?_⟩
    conv => whnf
    conv in (occs := *) (IntKind.wrap _ _) => all_goals rw [hwl]
    intro A3 cap3 m3 hS3
    have hc3 : Cells m3 A3 (itemsV n.log.items) := .of_sealed hS3
    repeat (first | exact trivial | (refine ⟨by first | exact ⟨rfl, rfl, rfl⟩ | rfl | exact ⟨rfl, rfl⟩ | exact ⟨rfl, fun _ _ => rfl⟩ | exact fun _ _ h => h | (intro _ _ h; cases h; done) | exact ⟨Int.natCast_nonneg _, by show (l : Int) ≤ (n.log.items.length : Int); omega⟩, ?_⟩; conv => whnf))
    have hcs := hc3.slice (c := cap3) (l := l) hS3.le
    rw [← hcut] at hcs
    refine ⟨⟨cutR n i b, if cap3 = (l : Int).toNat then A3 else A3.map (·.add ((l : Int).toNat * 6)), cap3 - (l : Int).toNat, m3⟩, ⟨by rw [hr], ⟨hcs, by rw [← hxl]; exact Nat.sub_le_sub_right hS3.le l⟩, hS3.ext⟩, ?_⟩
    conv => whnf
    repeat (first | exact trivial | exact fun _ _ h => h | (refine ⟨by first | exact ⟨rfl, rfl, rfl⟩ | rfl | exact ⟨rfl, rfl⟩ | exact ⟨rfl, fun _ _ => rfl⟩ | exact fun _ _ h => h | (intro _ _ h; cases h; done) | (rw [hr] <;> rfl) | exact ⟨rfl, hxl, rfl⟩, ?_⟩; conv => whnf))
    exact ⟨hS3.ext, fun _ _ h => h⟩
end Go.Proofs.Ytjpjiniclibgkaa.Sx

namespace Go.Proofs.Ytjpjiniclibgkaa.Sx
open Go

theorem lastI_eq (n : Node) : lastI n = n.log.base + n.log.items.length := rfl
theorem or_lt2 {v f s : Nat} (hs : s < 8) (hv : v < 2 ^ s) (hf : f < s) : 0 ≤ bits .or .i64 (v : Int) (IntKind.i64.wrap (1 * 2 ^ (min (f : Int).toNat IntKind.i64.bits))) ∧ bits .or .i64 (v : Int) (IntKind.i64.wrap (1 * 2 ^ (min (f : Int).toNat IntKind.i64.bits))) < 2 ^ s := by
  have key : ((List.range 8).all fun s => (List.range (2 ^ s)).all fun v => (List.range s).all fun f => decide (0 ≤ bits .or .i64 (v : Int) (IntKind.i64.wrap (1 * 2 ^ (min (f : Int).toNat IntKind.i64.bits)))) && decide (bits .or .i64 (v : Int) (IntKind.i64.wrap (1 * 2 ^ (min (f : Int).toNat IntKind.i64.bits))) < 2 ^ s)) = true := by kernel_rfl
  have := List.all_eq_true.1 (List.all_eq_true.1 (List.all_eq_true.1 key s (List.mem_range.2 hs)) v (List.mem_range.2 hv)) f (List.mem_range.2 hf)
  simpa using this
theorem orV_lt2 {n : Node} {k : Msg} (h : Fine n) (h1 : 0 ≤ k.frm) (h2 : k.frm < n.size) : 0 ≤ orV n k ∧ orV n k < 2 ^ n.size.toNat := by
  have hs1 := h.s1; have hs2 := h.s2; have hw1 := h.w1; have hw2 := h.w2
  have hp : ((2 ^ n.size.toNat : Nat) : Int) = (2 : Int) ^ n.size.toNat := by push_cast; rfl
  have := or_lt2 (v := n.votes.toNat) (f := k.frm.toNat) (s := n.size.toNat) (by omega) (by have : (n.votes.toNat : Int) < ((2 ^ n.size.toNat : Nat) : Int) := by rw [hp]; omega
                                                                                            exact Int.ofNat_lt.1 this) (by omega)
  have e1 : ((n.votes.toNat : Nat) : Int) = n.votes := by omega
  have e2 : ((k.frm.toNat : Nat) : Int) = k.frm := by omega
  rw [e1, e2] at this
  exact this
theorem or_fine {n : Node} {k : Msg} (h : Fine n) (h1 : 0 ≤ k.frm) (h2 : k.frm < n.size) : Fine (orN n k) :=
  ⟨h.s1, h.s2, h.m1, h.m2, h.t1, h.t2, h.v1, h.v2, h.b1, h.b2, h.bt, h.l, h.ris, h.r1, h.r2, h.d1, h.d2, h.c1, h.c2, (orV_lt2 h h1 h2).1, (orV_lt2 h h1 h2).2, ⟨h.rg.nx, h.rg.mt⟩⟩
theorem ask_fine {n : Node} {k : Msg} (h : Fine n) (h1 : 0 ≤ k.frm) (h2 : k.frm < n.size) : Fine (askN n k) := by
  unfold askN
  split
  · exact ⟨h.s1, h.s2, h.m1, h.m2, h.t1, h.t2, by show (-1 : Int) ≤ k.frm; omega, h2, h.b1, h.b2, h.bt, h.l, h.ris, h.r1, h.r2, h.d1, h.d2, h.c1, h.c2, h.w1, h.w2, ⟨h.rg.nx, h.rg.mt⟩⟩
  · exact h
theorem commitN_le {n : Node} (hf : Fit n) (hc : n.commit ≤ lastI n) : n.commit ≤ commitN n ∧ commitN n ≤ lastI n := by
  have h1 := commitGo_le (n := n) ((lastN n.log).1 - n.commit).toNat
  have h2 := last_fit hf
  unfold commitN
  rw [lastI_eq] at *
  omega
theorem commit_fine {n : Node} (h : Fine n) : Fine { n with commit := commitN n } := by
  have := commitN_le h.fit h.c2
  have := h.c1
  exact ⟨h.s1, h.s2, h.m1, h.m2, h.t1, h.t2, h.v1, h.v2, h.b1, h.b2, h.bt, h.l, h.ris, h.r1, h.r2, h.d1, h.d2, by show n.log.base ≤ commitN n; omega, by show commitN n ≤ lastI n; omega, h.w1, h.w2, ⟨h.rg.nx, h.rg.mt⟩⟩
theorem lead_fine {n : Node} (h : Fine n) : Fine (leadN n) := by
  have hs1 := h.s1; have hs2 := h.s2; have hm1 := h.m1; have hm2 := h.m2; have hb := h.b1
  have hp : (0 : Int) < 2 ^ n.size.toNat := Int.pow_pos (by decide)
  refine ⟨h.s1, h.s2, h.m1, h.m2, h.t1, h.t2, h.v1, h.v2, h.b1, h.b2, h.bt, h.l, h.ris, by show (0 : Int) ≤ 2; omega, by show (2 : Int) ≤ 2; omega, by show (-1 : Int) ≤ n.me; omega, h.m2, h.c1, h.c2, by show (0 : Int) ≤ 0; omega, hp, ⟨fun i hi => ?_, fun i hi => ?_⟩⟩
  · have hi : (i : Int) < n.size := hi
    show 0 ≤ (if i < n.size.toNat then n.log.base + n.log.items.length + 1 else n.next i) ∧ (if i < n.size.toNat then n.log.base + n.log.items.length + 1 else n.next i) ≤ n.log.base + n.log.items.length + 1
    rw [if_pos (by omega)]; omega
  · have hi : (i : Int) < n.size := hi
    show 0 ≤ (if i = n.me.toNat then n.log.base + n.log.items.length else if i < n.size.toNat then 0 else n.mat i) ∧ (if i = n.me.toNat then n.log.base + n.log.items.length else if i < n.size.toNat then 0 else n.mat i) ≤ n.log.base + n.log.items.length
    split
    · omega
    · rw [if_pos (by omega)]; omega
theorem lay_len (n : Node) (e : Entry) : (layN n e).log.items.length = n.log.items.length + 1 := by show (n.log.items ++ [_]).length = _; rw [List.length_append]; rfl
theorem lay_fine {n : Node} {e : Entry} (h : Fine n) (hv : validB e = true) (hl : n.log.items.length < 256) : Fine (layN n e) := by
  have hs1 := h.s1; have hs2 := h.s2; have hm1 := h.m1; have hm2 := h.m2; have hb := h.b1; have hc2 := h.c2
  have hll := lay_len n e
  have hli : lastI (layN n e) = lastI n + 1 := by
    show n.log.base + ((layN n e).log.items.length : Int) = n.log.base + n.log.items.length + 1
    rw [hll]; omega
  refine ⟨h.s1, h.s2, h.m1, h.m2, h.t1, h.t2, h.v1, h.v2, h.b1, h.b2, h.bt, by rw [hll]; omega, rising_snoc h.ris rfl hv, h.r1, h.r2, h.d1, h.d2, h.c1, by rw [hli]; show n.commit ≤ _; omega, h.w1, h.w2, ⟨fun i hi => ?_, fun i hi => ?_⟩⟩
  · have := h.rg.nx i hi
    rw [hli, lastI_eq]
    rw [lastI_eq] at this
    show 0 ≤ (if i = n.me.toNat then n.log.base + n.log.items.length + 1 + 1 else n.next i) ∧ (if i = n.me.toNat then n.log.base + n.log.items.length + 1 + 1 else n.next i) ≤ _
    split <;> omega
  · have := h.rg.mt i hi
    rw [hli, lastI_eq]
    rw [lastI_eq] at this
    show 0 ≤ (if i = n.me.toNat then n.log.base + n.log.items.length + 1 else n.mat i) ∧ (if i = n.me.toNat then n.log.base + n.log.items.length + 1 else n.mat i) ≤ _
    split <;> omega
theorem put_fine {n : Node} {e : Entry} (h : Fine n) (hv : validB e = true) (hl : n.log.items.length < 256) : Fine (putN n e) := commit_fine (lay_fine h hv hl)
theorem win_fine {n : Node} (h : Fine n) : Fine (winN n) := by
  unfold winN
  split
  · rename_i hl
    exact put_fine (lead_fine h) valid_none hl
  · exact lead_fine h
theorem leadS_fine {n : Node} (h : Fine n) : Fine (leadS n).n := by
  unfold leadS
  split
  · exact win_fine h
  · exact h
theorem hear_fine {n : Node} {k : Msg} (h : Fine n) (_h1 : 0 ≤ k.frm) (h2 : k.frm < n.size) (_h3 : 0 ≤ k.last) : Fine (hearN n k) := by
  have hs1 := h.s1; have hs2 := h.s2; have hb := h.b1
  obtain ⟨n1, n2⟩ := h.rg.nx k.frm.toNat (by omega)
  obtain ⟨m1, m2⟩ := h.rg.mt k.frm.toNat (by omega)
  have hfar : 0 ≤ farI n k ∧ farI n k ≤ lastI n := by unfold farI; omega
  refine ⟨h.s1, h.s2, h.m1, h.m2, h.t1, h.t2, h.v1, h.v2, h.b1, h.b2, h.bt, h.l, h.ris, h.r1, h.r2, h.d1, h.d2, h.c1, h.c2, h.w1, h.w2, ⟨fun i hi => ?_, fun i hi => ?_⟩⟩
  · have := h.rg.nx i hi
    show 0 ≤ (if i = k.frm.toNat then max (n.next k.frm.toNat) (farI n k + 1) else n.next i) ∧ (if i = k.frm.toNat then max (n.next k.frm.toNat) (farI n k + 1) else n.next i) ≤ lastI n + 1
    split <;> omega
  · have := h.rg.mt i hi
    show 0 ≤ (if i = k.frm.toNat then farI n k else n.mat i) ∧ (if i = k.frm.toNat then farI n k else n.mat i) ≤ lastI n
    split <;> omega
theorem got_fine {n : Node} {k : Msg} (h : Fine n) (h1 : 0 ≤ k.frm) (h2 : k.frm < n.size) (h3 : 0 ≤ k.last) : Fine (gotN n k) := by
  have hs1 := h.s1; have hs2 := h.s2
  obtain ⟨n1, n2⟩ := h.rg.nx k.frm.toNat (by omega)
  obtain ⟨m1, m2⟩ := h.rg.mt k.frm.toNat (by omega)
  unfold gotN
  split
  · exact h
  · split
    · exact commit_fine (hear_fine h h1 h2 h3)
    · split
      · rename_i hb
        have hb : backI n k < n.next k.frm.toNat := of_decide_eq_true hb
        have hb0 : 0 ≤ backI n k := by unfold backI; omega
        refine ⟨h.s1, h.s2, h.m1, h.m2, h.t1, h.t2, h.v1, h.v2, h.b1, h.b2, h.bt, h.l, h.ris, h.r1, h.r2, h.d1, h.d2, h.c1, h.c2, h.w1, h.w2, ⟨fun i hi => ?_, h.rg.mt⟩⟩
        have := h.rg.nx i hi
        show 0 ≤ (if i = k.frm.toNat then backI n k else n.next i) ∧ (if i = k.frm.toNat then backI n k else n.next i) ≤ lastI n + 1
        split <;> omega
      · exact h
/-! ### entries that are laid -/
theorem endT_take : ∀ {xs : List Item} {w : Int} (i : Nat), chainB w xs = true → endT w (xs.take i) ≤ endT w xs
  | [], _, _, _ => by simp [endT]
  | x :: r, w, 0, h => by
    have h0 : (x :: r)[0]? = some x := rfl
    have := chain_le h h0
    simp only [List.take_zero, endT] at this ⊢
    omega
  | x :: r, w, i + 1, h => by
    simp only [chainB, Bool.and_eq_true] at h
    simp only [List.take_succ_cons, endT]
    exact endT_take i h.2
theorem end_get : ∀ {xs : List Item} {w : Int} {x : Item}, xs[xs.length - 1]? = some x → endT w xs = x.term
  | [], _, _, h => by cases h
  | [y], _, _, h => by cases h; rfl
  | y :: z :: r, w, x, h => by
    simp only [endT]
    have : (z :: r)[(z :: r).length - 1]? = some x := by simpa using h
    have := end_get (w := y.term) this
    simpa [endT] using this
/-- The term of a log's last entry. -/
theorem end_term {l : Log} : endT l.baseTerm l.items = (termAtN l (l.base + l.items.length)).1 := by
  cases hz : l.items.length with
  | zero => rw [List.eq_nil_of_length_eq_zero hz, termAtN_base (by simp)]; rfl
  | succ k =>
    obtain ⟨x, hx⟩ := getIx (xs := l.items) (i := l.items.length - 1) (by omega)
    rw [end_get hx, term_at (i := l.base + ((k + 1 : Nat) : Int)) (by omega) (x := x) (by rw [← hx]; congr 1; omega)]
/-- What stands ahead of entries that are laid: up to where the log is the leader's, and what term stands there. -/
structure Ahead (n : Node) (a : Int) (xs : List Item) : Prop where
  b : n.log.base ≤ a
  e : a ≤ lastI n
  ch : chainB (termAtN n.log a).1 xs = true
  en : endT (termAtN n.log a).1 xs ≤ n.log.term
  cl : clashB n a xs = false
  ris : Rising n.log
  l : n.log.items.length ≤ 256
  c : n.commit ≤ lastI n
theorem clash_above {n : Node} : ∀ {xs : List Item} {a : Int}, n.commit ≤ a → clashB n a xs = false
  | [], _, _ => rfl
  | x :: r, a, h => by
    have ih := clash_above (n := n) (xs := r) (a := a + 1) (by omega)
    have : decide (a + 1 ≤ n.commit) = false := decide_eq_false (by omega)
    simp only [clashB, ih, this]; rfl
theorem trunc_last {n : Node} {a : Int} (h1 : n.log.base ≤ a) (h2 : a ≤ lastI n) : lastI (truncN n a) = a := by
  rw [lastI_eq] at h2
  show n.log.base + ((n.log.items.take (a - n.log.base).toNat).length : Int) = a
  rw [List.length_take]; omega
theorem trunc_term {n : Node} {a i : Int} (h1 : n.log.base ≤ a) (h2 : a ≤ lastI n) (hi : i ≤ a) : termAtN (truncN n a).log i = termAtN n.log i := by
  have hl := trunc_last h1 h2
  by_cases hb : i = n.log.base
  · rw [termAtN_base (l := n.log) hb, termAtN_base (l := (truncN n a).log) hb]; rfl
  · by_cases hlt : n.log.base < i
    · rw [lastI_eq] at h2
      obtain ⟨x, hx⟩ := getIx (xs := n.log.items) (i := (i - n.log.base - 1).toNat) (by omega)
      rw [term_at hlt hx]
      refine term_at (l := (truncN n a).log) hlt ?_
      show (n.log.items.take (a - n.log.base).toNat)[(i - n.log.base - 1).toNat]? = some x
      rw [List.getElem?_take, if_pos (by omega)]; exact hx
    · rw [termAtN_out (l := n.log) hb (by omega), termAtN_out (l := (truncN n a).log) hb (by show ¬ (n.log.base < i ∧ _); omega)]
theorem push_last (n : Node) (x : Item) : lastI (pushN n x) = lastI n + 1 := by
  show n.log.base + ((n.log.items ++ [x]).length : Int) = n.log.base + n.log.items.length + 1
  rw [List.length_append]; show _ + ((_ + 1 : Nat) : Int) = _; omega
theorem push_term {n : Node} {x : Item} : termAtN (pushN n x).log (lastI n + 1) = (x.term, true) := by
  refine term_at (l := (pushN n x).log) (by rw [lastI_eq]; show n.log.base < _; omega) ?_
  show (n.log.items ++ [x])[(lastI n + 1 - n.log.base - 1).toNat]? = some x
  rw [lastI_eq, show (n.log.base + (n.log.items.length : Int) + 1 - n.log.base - 1).toNat = n.log.items.length by omega]
  simp
theorem trunc_rising {n : Node} {a : Int} (h : Rising n.log) : Rising (truncN n a).log :=
  ⟨chain_take _ _ _ h.1, Int.le_trans (endT_take _ h.1) h.2⟩
theorem cut_ahead {n : Node} {a : Int} {x : Item} {r : List Item} (h : Ahead n a (x :: r)) : (cutN n a x).log.base ≤ a ∧ a ≤ lastI (cutN n a x) ∧ (termAtN (cutN n a x).log a).1 = (termAtN n.log a).1 ∧ Rising (cutN n a x).log ∧ (cutN n a x).log.items.length ≤ 256 ∧ n.commit ≤ lastI (cutN n a x) ∧ (cutB n a x = true → lastI (cutN n a x) = a ∧ n.commit ≤ a) ∧ (cutB n a x = false → cutN n a x = n) := by
  unfold cutN
  cases hc : cutB n a x with
  | false => exact ⟨h.b, h.e, rfl, h.ris, h.l, h.c, fun h => (by cases h), fun _ => rfl⟩
  | true =>
    have hk : (termAtN n.log (a + 1)).2 = true ∧ ((termAtN n.log (a + 1)).1 != x.term) = true := by
      unfold cutB at hc
      cases h2 : (termAtN n.log (a + 1)).2 with
      | true => rw [h2] at hc; exact ⟨rfl, by simpa using hc⟩
      | false => rw [h2] at hc; cases hc
    have hcl := h.cl
    simp only [clashB, hk.2, Bool.and_true, Bool.or_eq_false_iff, decide_eq_false_iff_not] at hcl
    have hca : n.commit ≤ a := by omega
    refine ⟨h.b, ?_, ?_, trunc_rising h.ris, ?_, ?_, fun _ => ⟨trunc_last h.b h.e, hca⟩, fun h => (by cases h)⟩
    · show a ≤ lastI (truncN n a); rw [trunc_last h.b h.e]; exact Int.le_refl _
    · show (termAtN (truncN n a).log a).1 = _; rw [trunc_term h.b h.e (Int.le_refl _)]
    · show (n.log.items.take _).length ≤ 256
      have := h.l; rw [List.length_take]; omega
    · show n.commit ≤ lastI (truncN n a); rw [trunc_last h.b h.e]; exact hca
/-- What is left of a node when entries have been laid. -/
structure Laid (n n' : Node) (a a' : Int) : Prop where
  eq : n' = { n with log := { n.log with items := n'.log.items } }
  ris : Rising n'.log
  l : n'.log.items.length ≤ 256
  c : n.commit ≤ lastI n'
  a1 : a ≤ a'
  a2 : a' ≤ lastI n'
theorem lay_all : ∀ (xs : List Item) {n : Node} {a : Int}, Ahead n a xs → Laid n (layGo n a xs).n a (layGo n a xs).a
  | [], n, a, h => ⟨rfl, h.ris, h.l, h.c, Int.le_refl _, h.e⟩
  | x :: r, n, a, h => by
    obtain ⟨hb, he, ht, hr, hl, hc, hcut, hno⟩ := cut_ahead h
    have hx := h.ch
    simp only [chainB, Bool.and_eq_true, Bool.not_eq_true', Bool.or_eq_false_iff, decide_eq_false_iff_not] at hx
    have hen := h.en
    simp only [endT] at hen
    have heq : cutN n a x = { n with log := { n.log with items := (cutN n a x).log.items } } := by unfold cutN; split <;> rfl
    have hcc : (cutN n a x).commit = n.commit := by rw [heq]
    have htt : (cutN n a x).log.term = n.log.term := by rw [heq]
    have hxt : x.term ≤ n.log.term := by
      have h0 : (x :: r)[0]? = some x := rfl
      have := (chain_le h.ch h0).2
      have := h.en
      omega
    simp only [layGo]
    split
    · rename_i hlt
      have hcf : cutB n a x = false := by
        cases hcb : cutB n a x with
        | false => rfl
        | true => have := (hcut hcb).1; omega
      have hcn := hno hcf
      rw [hcn] at hlt ⊢
      have hkn : (termAtN n.log (a + 1)).2 = true := known_of (by have := h.b; omega) (by rw [lastI_eq] at hlt; omega)
      have hterm : (termAtN n.log (a + 1)).1 = x.term := by
        unfold cutB at hcf
        rw [hkn] at hcf
        simpa [bne] using hcf
      have hcl := h.cl
      simp only [clashB, Bool.or_eq_false_iff] at hcl
      have ih := lay_all r (n := n) (a := a + 1) ⟨by have := h.b; omega, by omega, by rw [hterm]; exact hx.2, by rw [hterm]; exact hen, hcl.2, h.ris, h.l, h.c⟩
      exact ⟨ih.eq, ih.ris, ih.l, ih.c, by have := ih.a1; omega, ih.a2⟩
    · rename_i hge
      split
      · exact ⟨heq, hr, hl, hc, Int.le_refl _, he⟩
      · rename_i hsm
        have hla : lastI (cutN n a x) = a := by omega
        have hpl := push_last (cutN n a x) x
        have hpt := push_term (n := cutN n a x) (x := x)
        rw [hla] at hpl hpt
        have hen2 : endT (cutN n a x).log.baseTerm (cutN n a x).log.items = (termAtN n.log a).1 := by rw [end_term, ← lastI_eq, hla, ht]
        have hpr : Rising (pushN (cutN n a x) x).log := by
          refine ⟨?_, ?_⟩
          · show chainB (cutN n a x).log.baseTerm ((cutN n a x).log.items ++ [x]) = true
            rw [chain_snoc, hr.1, hen2]
            have h1 := hx.1
            simp only [Bool.not_eq_false'] at h1
            simp [h1.1, h1.2]
          · show endT (cutN n a x).log.baseTerm ((cutN n a x).log.items ++ [x]) ≤ (cutN n a x).log.term
            rw [last_snoc, htt]; exact hxt
        have hpc : (pushN (cutN n a x) x).commit = n.commit := hcc
        have ih := lay_all r (n := pushN (cutN n a x) x) (a := a + 1) ⟨by show (cutN n a x).log.base ≤ a + 1; omega, by omega, by rw [hpt]; exact hx.2, by rw [hpt]; show _ ≤ (cutN n a x).log.term; rw [htt]; exact hen, clash_above (by rw [hpc]; omega), hpr, by show ((cutN n a x).log.items ++ [x]).length ≤ 256; rw [List.length_append]; show _ + 1 ≤ 256; omega, by rw [hpc, hpl]; omega⟩
        refine ⟨?_, ih.ris, ih.l, by have := ih.c; rw [hpc] at this; exact this, by have := ih.a1; omega, ih.a2⟩
        have h1 := ih.eq
        rw [h1]
        show _ = _
        rw [show (pushN (cutN n a x) x) = { cutN n a x with log := { (cutN n a x).log with items := (cutN n a x).log.items ++ [x] } } from rfl, heq]
end Go.Proofs.Ytjpjiniclibgkaa.Sx

namespace Go.Proofs.Ytjpjiniclibgkaa.Sx
open Go

theorem chain_drop : ∀ {xs : List Item} {w : Int} {i : Nat} {x : Item}, chainB w xs = true → xs[i]? = some x → chainB x.term (xs.drop (i + 1)) = true ∧ endT x.term (xs.drop (i + 1)) = endT w xs
  | [], _, _, _, _, h => by cases h
  | y :: r, w, 0, x, hc, h => by
    cases h
    simp only [chainB, Bool.and_eq_true] at hc
    exact ⟨hc.2, rfl⟩
  | y :: r, w, i + 1, x, hc, h => by
    simp only [chainB, Bool.and_eq_true] at hc
    exact chain_drop (i := i) hc.2 h
/-- A node that follows: nothing is known of the others. -/
def Zero (n : Node) : Prop := (∀ i, n.next i = 0) ∧ ∀ i, n.mat i = 0
structure Weak (n n' : Node) : Prop where
  me : n'.me = n.me
  sz : n'.size = n.size
  t : n.log.term ≤ n'.log.term
  c : n.commit ≤ n'.commit
  b : n.log.base ≤ n'.log.base
theorem Weak.refl (n : Node) : Weak n n := ⟨rfl, rfl, Int.le_refl _, Int.le_refl _, Int.le_refl _⟩
theorem Weak.trans {a b c : Node} (h : Weak a b) (g : Weak b c) : Weak a c :=
  ⟨g.me.trans h.me, g.sz.trans h.sz, Int.le_trans h.t g.t, Int.le_trans h.c g.c, Int.le_trans h.b g.b⟩
structure Onto (n n' : Node) : Prop where
  w : Weak n n'
  v : n'.log.term = n.log.term → 0 ≤ n.log.vote → n'.log.vote = n.log.vote
  i : n.role = 2 → n'.log.term = n.log.term → ∃ l, n'.log.items = n.log.items ++ l
theorem Onto.refl (n : Node) : Onto n n := ⟨Weak.refl n, fun _ _ => rfl, fun _ _ => ⟨[], by simp⟩⟩
theorem layR_fine {n : Node} {k : Msg} {a : Int} {xs : List Item} (h : Fine n) (hz : Zero n) (ha : clashB n a xs = false → Ahead n a xs) (_ha0 : 0 ≤ k.commit) : Fine (layR n k a xs).n ∧ Weak n (layR n k a xs).n ∧ (layR n k a xs).n.log.term = n.log.term ∧ (layR n k a xs).n.log.vote = n.log.vote := by
  unfold layR
  split
  · exact ⟨h, Weak.refl n, rfl, rfl⟩
  · rename_i hcl
    have hcl : clashB n a xs = false := by simpa using hcl
    have hA := lay_all xs (ha hcl)
    obtain ⟨n', hn'⟩ : ∃ n', n' = (layGo n a xs).n := ⟨_, rfl⟩
    obtain ⟨a', ha'⟩ : ∃ a', a' = (layGo n a xs).a := ⟨_, rfl⟩
    rw [← hn', ← ha'] at hA ⊢
    have he := hA.eq
    have h1 : n'.me = n.me := by rw [he]
    have h2 : n'.size = n.size := by rw [he]
    have h3 : n'.log.term = n.log.term := by rw [he]
    have h4 : n'.log.vote = n.log.vote := by rw [he]
    have h5 : n'.log.base = n.log.base := by rw [he]
    have h6 : n'.log.baseTerm = n.log.baseTerm := by rw [he]
    have h7 : n'.role = n.role := by rw [he]
    have h8 : n'.lead = n.lead := by rw [he]
    have h9 : n'.commit = n.commit := by rw [he]
    have h10 : n'.votes = n.votes := by rw [he]
    have h11 : ∀ i, n'.next i = 0 := fun i => by rw [he]; exact hz.1 i
    have h12 : ∀ i, n'.mat i = 0 := fun i => by rw [he]; exact hz.2 i
    have hc1 := h.c1; have hb1 := h.b1; have hcc := hA.c; have haa := hA.a2
    have hl0 : 0 ≤ lastI n' := by rw [lastI_eq, h5]; omega
    refine ⟨⟨by show 1 ≤ n'.size; rw [h2]; exact h.s1, by show n'.size ≤ 7; rw [h2]; exact h.s2, by show 0 ≤ n'.me; rw [h1]; exact h.m1, by show n'.me < n'.size; rw [h1, h2]; exact h.m2, by show 0 ≤ n'.log.term; rw [h3]; exact h.t1, by show n'.log.term ≤ _; rw [h3]; exact h.t2, by show -1 ≤ n'.log.vote; rw [h4]; exact h.v1, by show n'.log.vote < n'.size; rw [h4, h2]; exact h.v2, by show 0 ≤ n'.log.base; rw [h5]; exact h.b1, by show n'.log.base ≤ _; rw [h5]; exact h.b2, by show 0 ≤ n'.log.baseTerm; rw [h6]; exact h.bt, hA.l, hA.ris, by show 0 ≤ n'.role; rw [h7]; exact h.r1, by show n'.role ≤ 2; rw [h7]; exact h.r2, by show -1 ≤ n'.lead; rw [h8]; exact h.d1, by show n'.lead < n'.size; rw [h8, h2]; exact h.d2, by show n'.log.base ≤ max n'.commit (min k.commit a'); rw [h5, h9]; omega, by show max n'.commit (min k.commit a') ≤ lastI n'; rw [h9]; omega, by show 0 ≤ n'.votes; rw [h10]; exact h.w1, by show n'.votes < 2 ^ n'.size.toNat; rw [h10, h2]; exact h.w2, ⟨fun i _ => ?_, fun i _ => ?_⟩⟩, ⟨h1, h2, by show n.log.term ≤ n'.log.term; rw [h3]; exact Int.le_refl _, by show n.commit ≤ max n'.commit (min k.commit a'); rw [h9]; omega, by show n.log.base ≤ n'.log.base; rw [h5]; exact Int.le_refl _⟩, h3, h4⟩
    · show 0 ≤ n'.next i ∧ n'.next i ≤ lastI n' + 1
      rw [h11]; omega
    · show 0 ≤ n'.mat i ∧ n'.mat i ≤ lastI n'
      rw [h12]; omega
theorem append_fine {n : Node} {k : Msg} (h : Fine n) (hk : Heard n k) (ht : k.term = n.log.term) (hz : Zero n) : Fine (appendR n k).n ∧ Weak n (appendR n k).n ∧ (appendR n k).n.log.term = n.log.term ∧ (appendR n k).n.log.vote = n.log.vote := by
  have hup := hk.up
  unfold appendR
  split
  · rename_i hlow
    split
    · exact ⟨h, Weak.refl n, rfl, rfl⟩
    · rename_i hne
      split
      · exact ⟨h, Weak.refl n, rfl, rfl⟩
      · rename_i hge
        have hsk : skipI n k = min (n.log.base - k.last).toNat k.items.length := rfl
        have hse : k.last + (skipI n k : Int) = n.log.base := by omega
        obtain ⟨x, hx⟩ := getIx (xs := k.items) (i := skipI n k - 1) (by omega)
        have hxt : x.term = n.log.baseTerm := by
          have : termOf k.items (skipI n k - 1) = n.log.baseTerm := Decidable.byContradiction fun hh => hne ⟨hse, hh⟩
          unfold termOf at this
          rw [hx] at this
          exact this
        have hcd := chain_drop hup.1 hx
        rw [show skipI n k - 1 + 1 = skipI n k by omega] at hcd
        have hc1 := h.c1; have hc2 := h.c2
        rw [hse]
        have hbt : (termAtN n.log n.log.base).1 = n.log.baseTerm := by rw [termAtN_base rfl]
        exact layR_fine h hz (fun hcl => ⟨Int.le_refl _, by omega, by rw [hbt, ← hxt]; exact hcd.1, by rw [hbt, ← hxt, hcd.2, ← ht]; exact hup.2, hcl, h.ris, h.l, hc2⟩) hk.c1
  · rename_i hhigh
    split
    · exact ⟨h, Weak.refl n, rfl, rfl⟩
    · rename_i hkn
      have hkn2 : (termAtN n.log k.last).2 = true := by
        cases hh : (termAtN n.log k.last).2 with
        | true => rfl
        | false => exact absurd (.inl hh) hkn
      have hterm : (termAtN n.log k.last).1 = k.lastTerm := Decidable.byContradiction fun hh => hkn (.inr hh)
      have hin := known_in hkn2
      exact layR_fine h hz (fun hcl => ⟨by omega, by rw [lastI_eq]; omega, by rw [hterm]; exact hup.1, by rw [hterm, ← ht]; exact hup.2, hcl, h.ris, h.l, h.c2⟩) hk.c1
theorem install_fine {n : Node} {k : Msg} (h : Fine n) (hk : Heard n k) (ht : k.term = n.log.term) (hz : Zero n) : Fine (installR n k).n ∧ Weak n (installR n k).n ∧ (installR n k).n.log.term = n.log.term ∧ (installR n k).n.log.vote = n.log.vote := by
  unfold installR
  split
  · rename_i hyes
    have hc1 := h.c1; have hb1 := h.b1; have ha1 := hk.a1; have ha2 := hk.a2; have hl := h.l; have hb2 := hk.b2; have hbb := hk.b1
    have hr : Rising { n.log with base := k.last, baseTerm := k.lastTerm, book := k.book, items := restL n k } ∧ (restL n k).length ≤ 256 := by
      unfold restL
      split
      · rename_i hkn
        have hin := known_in hkn.1
        have hlt : n.log.base < k.last := by omega
        obtain ⟨x, hx⟩ := getIx (xs := n.log.items) (i := (k.last - n.log.base - 1).toNat) (by omega)
        have hxt : x.term = k.lastTerm := by rw [← hkn.2, term_at hlt hx]
        have hcd := chain_drop h.ris.1 hx
        rw [show (k.last - n.log.base - 1).toNat + 1 = (k.last - n.log.base).toNat by omega, hxt] at hcd
        exact ⟨⟨hcd.1, by show endT k.lastTerm _ ≤ n.log.term; rw [hcd.2]; exact h.ris.2⟩, by rw [List.length_drop]; omega⟩
      · exact ⟨⟨rfl, by show k.lastTerm ≤ n.log.term; omega⟩, Nat.zero_le _⟩
    have hli : lastI (bookN n k (restL n k)) = k.last + (restL n k).length := rfl
    refine ⟨⟨h.s1, h.s2, h.m1, h.m2, h.t1, h.t2, h.v1, h.v2, ha1, ha2, hbb, hr.2, hr.1, h.r1, h.r2, h.d1, h.d2, Int.le_refl _, by rw [hli]; show k.last ≤ _; omega, h.w1, h.w2, ⟨fun i _ => ?_, fun i _ => ?_⟩⟩, ⟨rfl, rfl, Int.le_refl _, by show n.commit ≤ k.last; omega, by show n.log.base ≤ k.last; omega⟩, rfl, rfl⟩
    · rw [hli]; show 0 ≤ n.next i ∧ n.next i ≤ _; rw [hz.1]; omega
    · rw [hli]; show 0 ≤ n.mat i ∧ n.mat i ≤ _; rw [hz.2]; omega
  · exact ⟨h, Weak.refl n, rfl, rfl⟩
theorem put_weak {n : Node} {e : Entry} (h : Fine n) (hv : validB e = true) (hl : n.log.items.length < 256) : Weak n (putN n e) :=
  ⟨rfl, rfl, Int.le_refl _, (commitN_le (lay_fine h hv hl).fit (lay_fine h hv hl).c2).1, Int.le_refl _⟩
theorem win_weak {n : Node} (h : Fine n) : Weak n (winN n) := by
  unfold winN
  split
  · rename_i hl
    have := put_weak (lead_fine h) valid_none hl
    exact ⟨this.me, this.sz, this.t, this.c, this.b⟩
  · exact ⟨rfl, rfl, Int.le_refl _, Int.le_refl _, Int.le_refl _⟩
theorem win_log {n : Node} : (winN n).log.term = n.log.term ∧ (winN n).log.vote = n.log.vote := by
  unfold winN
  split <;> exact ⟨rfl, rfl⟩
theorem leadS_weak {n : Node} (h : Fine n) : Weak n (leadS n).n ∧ (leadS n).n.log.term = n.log.term ∧ (leadS n).n.log.vote = n.log.vote := by
  unfold leadS
  split
  · exact ⟨win_weak h, win_log.1, win_log.2⟩
  · exact ⟨Weak.refl n, rfl, rfl⟩
theorem follow_zero (n : Node) (t l : Int) : Zero (followN n t l) := ⟨fun _ => rfl, fun _ => rfl⟩
theorem follow_same {n : Node} {t l : Int} (h : ¬ t > n.log.term) : (followN n t l).log = n.log := by
  show (if t > n.log.term then _ else _) = _; rw [if_neg h]
theorem heardK_onto {n : Node} {k : Msg} (h : Fine n) (hk : Heard n k) (ht : k.term ≤ n.log.term) : Fine (heardK n k).n ∧ Onto n (heardK n k).n := by
  unfold heardK
  split
  · refine ⟨ask_fine h hk.f1 hk.f2, ?_⟩
    show Onto n (askN n k)
    unfold askN
    split
    · rename_i hy
      refine ⟨⟨rfl, rfl, Int.le_refl _, Int.le_refl _, Int.le_refl _⟩, fun _ hv => ?_, fun _ _ => ⟨[], by simp⟩⟩
      unfold askB at hy
      simp only [Bool.and_eq_true, Bool.or_eq_true, beq_iff_eq] at hy
      show k.frm = n.log.vote
      omega
    · exact Onto.refl n
  split
  · split
    · rename_i hv
      have hro : n.role = 1 := by unfold voteB at hv; simp only [Bool.and_eq_true, beq_iff_eq] at hv; exact hv.1.1
      have hof := or_fine (k := k) h hk.f1 hk.f2
      obtain ⟨hw, h1, h2⟩ := leadS_weak hof
      exact ⟨leadS_fine hof, ⟨⟨hw.me, hw.sz, hw.t, hw.c, hw.b⟩, fun _ _ => h2, fun hr => by rw [hro] at hr; cases hr⟩⟩
    · exact ⟨h, Onto.refl n⟩
  split
  · refine ⟨got_fine h hk.f1 hk.f2 hk.a1, ?_⟩
    show Onto n (gotN n k)
    unfold gotN
    split
    · exact Onto.refl n
    · split
      · have := (commitN_le (hear_fine (k := k) h hk.f1 hk.f2 hk.a1).fit (hear_fine (k := k) h hk.f1 hk.f2 hk.a1).c2).1
        exact ⟨⟨rfl, rfl, Int.le_refl _, this, Int.le_refl _⟩, fun _ _ => rfl, fun _ _ => ⟨[], by simp [hearN]⟩⟩
      · split
        · exact ⟨⟨rfl, rfl, Int.le_refl _, Int.le_refl _, Int.le_refl _⟩, fun _ _ => rfl, fun _ _ => ⟨[], by simp⟩⟩
        · exact Onto.refl n
  · unfold leaderS
    split
    · exact ⟨h, Onto.refl n⟩
    rename_i hlo
    split
    · exact ⟨h, Onto.refl n⟩
    rename_i hro
    have hte : k.term = n.log.term := by omega
    have hff := follow_fine h hk hlo
    have hfs : (followN n k.term k.frm).log = n.log := follow_same (by omega)
    have hkf : Heard (followN n k.term k.frm) k := ⟨hk.to, hk.f1, hk.f2, hk.f3, hk.k1, hk.k2, hk.t1, hk.t2, hk.a1, hk.a2, hk.b1, hk.b2, hk.c1, hk.c2, hk.l, hk.up⟩
    have hft : k.term = (followN n k.term k.frm).log.term := by rw [hfs]; exact hte
    have key : ∀ b : Node, Fine b ∧ Weak (followN n k.term k.frm) b ∧ b.log.term = (followN n k.term k.frm).log.term ∧ b.log.vote = (followN n k.term k.frm).log.vote → Fine b ∧ Onto n b := by
      rintro b ⟨h1, h2, h3, h4⟩
      refine ⟨h1, ⟨⟨h2.me, h2.sz, ?_, h2.c, ?_⟩, fun _ _ => ?_, fun hr => absurd hr hro⟩⟩
      · have := h2.t; rw [hfs] at this; exact this
      · have := h2.b; rw [hfs] at this; exact this
      · rw [h4, hfs]
    split
    · exact key _ (append_fine hff hkf hft (follow_zero _ _ _))
    · exact key _ (install_fine hff hkf hft (follow_zero _ _ _))
theorem turn_weak {n : Node} {k : Msg} : Weak n (turnN n k) := by
  unfold turnN
  split
  · rename_i h
    have hlog : (followN n k.term (-1)).log = { n.log with term := k.term, vote := -1 } := by show (if k.term > n.log.term then _ else _) = _; rw [if_pos h]
    exact ⟨rfl, rfl, by rw [hlog]; show n.log.term ≤ k.term; omega, Int.le_refl _, by rw [hlog]; exact Int.le_refl _⟩
  · exact Weak.refl n
theorem turnN_term {n : Node} {k : Msg} : k.term ≤ (turnN n k).log.term := by
  unfold turnN
  split
  · rename_i h; show k.term ≤ (if k.term > n.log.term then { n.log with term := k.term, vote := -1 } else n.log).term; rw [if_pos h]; exact Int.le_refl _
  · rename_i h; omega
/-- A message that is heard leads a node that can be to one that can be. -/
theorem step_onto {n : Node} {k : Msg} (h : Fine n) (hk : Heard n k) : Fine (stepR n k).n ∧ Onto n (stepR n k).n := by
  have hr : stepR n k = heardK (turnN n k) k := by unfold stepR; rw [if_pos ⟨fine_iff.2 h, heard_iff.2 hk⟩]
  rw [hr]
  obtain ⟨h1, h2⟩ := heardK_onto (turn_fine h hk) (heard_turn rfl hk) turnN_term
  refine ⟨h1, ?_⟩
  by_cases ht : k.term > n.log.term
  · have hw := turn_weak (n := n) (k := k)
    have hlog : (turnN n k).log.term = k.term := by
      unfold turnN; rw [if_pos ht]
      show (if k.term > n.log.term then { n.log with term := k.term, vote := -1 } else n.log).term = k.term; rw [if_pos ht]
    have htt := h2.w.t
    exact ⟨hw.trans h2.w, fun he => by omega, fun _ he => by omega⟩
  · have ha : turnN n k = n := by unfold turnN; rw [if_neg ht]
    rw [ha] at h2
    rw [ha]
    exact h2
theorem timeout_onto {n : Node} (h : Fine n) : Fine (timeoutR n).n ∧ Onto n (timeoutR n).n ∧ (timeoutR n).e = 0 := by
  unfold timeoutR
  rw [if_pos (fine_iff.2 h)]
  split
  · exact ⟨h, Onto.refl n, rfl⟩
  · rename_i hno
    have hcf := cand_fine h (by omega)
    obtain ⟨hw, h1, _⟩ := leadS_weak hcf
    have hct : (candN n).log.term = n.log.term + 1 := by
      show (if n.log.term + 1 > n.log.term then { n.log with term := n.log.term + 1, vote := -1 } else n.log).term = _
      rw [if_pos (by omega)]
    have hcb : (candN n).log.base = n.log.base := by
      show (if n.log.term + 1 > n.log.term then { n.log with term := n.log.term + 1, vote := -1 } else n.log).base = _
      rw [if_pos (by omega)]
    have hw0 : Weak n (candN n) := ⟨rfl, rfl, by rw [hct]; omega, Int.le_refl _, by rw [hcb]; exact Int.le_refl _⟩
    exact ⟨leadS_fine hcf, ⟨hw0.trans hw, fun he => by rw [h1, hct] at he; omega, fun _ he => by rw [h1, hct] at he; omega⟩, rfl⟩
theorem beat_onto {n : Node} (h : Fine n) : (beatR n).n = n ∧ (beatR n).e = 0 := by
  unfold beatR
  rw [if_pos (fine_iff.2 h)]
  split <;> exact ⟨rfl, rfl⟩
theorem propose_onto {n : Node} {e : Entry} (h : Fine n) (he : (proposeR n e).e = 0) : Fine (proposeR n e).n ∧ Onto n (proposeR n e).n := by
  unfold proposeR at he ⊢
  split at he
  · rename_i hg
    rw [if_pos hg]
    split at he
    · rename_i hro
      rw [if_pos hro]
      split at he
      · rename_i hl
        rw [if_pos hl]
        exact ⟨put_fine h hg.2 hl, ⟨put_weak h hg.2 hl, fun _ _ => rfl, fun _ _ => ⟨_, rfl⟩⟩⟩
      · cases he
    · cases he
  · cases he
end Go.Proofs.Ytjpjiniclibgkaa.Sx

namespace Go.Proofs.Ytjpjiniclibgkaa.Sx
open Go

/-- Messages of a node to others, in its term. -/
def Talks (n : Node) (ks : List Msg) : Prop := ∀ j ∈ ks, j.frm = n.me ∧ j.to ≠ n.me ∧ 0 ≤ j.to ∧ j.to < n.size ∧ j.term = n.log.term
theorem Talks.nil (n : Node) : Talks n [] := fun _ h => by cases h
theorem Talks.append {n : Node} {a b : List Msg} (h : Talks n a) (g : Talks n b) : Talks n (a ++ b) := fun j hj => (List.mem_append.1 hj).elim (h j) (g j)
theorem talks_say {n a : Node} {to : Int} {m : Msg} (h1 : a.me = n.me) (h2 : a.log.term = n.log.term) (h3 : to ≠ n.me) (h4 : 0 ≤ to) (h5 : to < n.size) : Talks n [sayN a to m] := by
  intro j hj
  obtain rfl := List.mem_singleton.1 hj
  exact ⟨h1, h3, h4, h5, h2⟩
theorem others_mem {n : Node} {i k : Nat} (h : k ∈ othersL n i) : k < i ∧ (k : Int) ≠ n.me := by
  unfold othersL at h
  obtain ⟨h1, h2⟩ := List.mem_filter.1 h
  exact ⟨List.mem_range.1 h1, by simpa using h2⟩
theorem talks_feedAll {n : Node} : Talks n (feedAllK n) := by
  intro j hj
  obtain ⟨i, hi, rfl⟩ := List.mem_map.1 hj
  obtain ⟨h1, h2⟩ := others_mem hi
  exact ⟨rfl, h2, Int.natCast_nonneg _, by show (i : Int) < n.size; omega, rfl⟩
theorem talks_asks {n : Node} {a b : Int} : Talks n (asksK n a b n.size.toNat) := by
  intro j hj
  obtain ⟨i, hi, rfl⟩ := List.mem_map.1 hj
  obtain ⟨h1, h2⟩ := others_mem hi
  exact ⟨rfl, h2, Int.natCast_nonneg _, by show (i : Int) < n.size; omega, rfl⟩
theorem talks_repl {n a : Node} {k : Msg} {r : HeardR} (h1 : a.me = n.me) (h2 : a.log.term = n.log.term) (h3 : k.frm ≠ n.me) (h4 : 0 ≤ k.frm) (h5 : k.frm < n.size) : Talks n (repl1 a k r) := by
  unfold repl1
  split
  · exact talks_say h1 h2 h3 h4 h5
  · exact Talks.nil n
theorem talks_lead (n : Node) : Talks (leadS n).n (leadS n).ks := by
  unfold leadS
  split
  · exact talks_feedAll
  · exact Talks.nil _
theorem got_keeps (n : Node) (k : Msg) : (gotN n k).me = n.me ∧ (gotN n k).size = n.size ∧ (gotN n k).log = n.log := by
  unfold gotN
  split
  · exact ⟨rfl, rfl, rfl⟩
  · split
    · exact ⟨rfl, rfl, rfl⟩
    · split <;> exact ⟨rfl, rfl, rfl⟩
theorem heardK_talks {n : Node} {k : Msg} (h : Fine n) (hk : Heard n k) (ht : k.term ≤ n.log.term) : Talks (heardK n k).n (heardK n k).ks := by
  unfold heardK
  split
  · show Talks (askN n k) (repl1 n k (askR n k))
    have hkeep : (askN n k).me = n.me ∧ (askN n k).size = n.size ∧ (askN n k).log.term = n.log.term := by unfold askN; split <;> exact ⟨rfl, rfl, rfl⟩
    exact talks_repl hkeep.1.symm hkeep.2.2.symm (by rw [hkeep.1]; exact hk.f3) hk.f1 (by rw [hkeep.2.1]; exact hk.f2)
  split
  · split
    · exact talks_lead _
    · exact Talks.nil _
  split
  · obtain ⟨h1, h2, h3⟩ := got_keeps n k
    show Talks (gotN n k) (if gotY n k = true then [feedN (gotN n k) k.frm] else [])
    split
    · exact talks_say rfl rfl (by rw [h1]; exact hk.f3) hk.f1 (by rw [h2]; exact hk.f2)
    · exact Talks.nil _
  · unfold leaderS
    split
    · exact talks_say rfl rfl hk.f3 hk.f1 hk.f2
    rename_i hlo
    split
    · exact Talks.nil _
    have hte : k.term = n.log.term := by omega
    have hff := follow_fine h hk hlo
    have hfs : (followN n k.term k.frm).log = n.log := follow_same (by omega)
    have hkf : Heard (followN n k.term k.frm) k := ⟨hk.to, hk.f1, hk.f2, hk.f3, hk.k1, hk.k2, hk.t1, hk.t2, hk.a1, hk.a2, hk.b1, hk.b2, hk.c1, hk.c2, hk.l, hk.up⟩
    have hft : k.term = (followN n k.term k.frm).log.term := by rw [hfs]; exact hte
    split
    · obtain ⟨_, hw, h3, _⟩ := append_fine hff hkf hft (follow_zero _ _ _)
      show Talks (appendR (followN n k.term k.frm) k).n (repl1 _ _ _)
      exact talks_repl hw.me.symm h3.symm (by rw [hw.me]; exact hk.f3) hk.f1 (by rw [hw.sz]; exact hk.f2)
    · obtain ⟨_, hw, h3, _⟩ := install_fine hff hkf hft (follow_zero _ _ _)
      show Talks (installR (followN n k.term k.frm) k).n (repl1 _ _ _)
      exact talks_repl hw.me.symm h3.symm (by rw [hw.me]; exact hk.f3) hk.f1 (by rw [hw.sz]; exact hk.f2)
/-- What a step's answers are addressed to. -/
theorem step_talk {n : Node} {k : Msg} (he : (stepR n k).e = 0) : ∀ j ∈ (stepR n k).ks, j.frm = n.me ∧ j.to ≠ n.me ∧ 0 ≤ j.to ∧ j.to < n.size ∧ j.term = (stepR n k).n.log.term := by
  by_cases hg : goodB n = true ∧ soundB n k = true
  · have hf := fine_iff.1 hg.1
    have hh := heard_iff.1 hg.2
    have hw := (step_onto hf hh).2.w
    have hr : stepR n k = heardK (turnN n k) k := by unfold stepR; rw [if_pos hg]
    have ht : Talks (stepR n k).n (stepR n k).ks := by
      rw [hr]; exact heardK_talks (turn_fine hf hh) (heard_turn rfl hh) turnN_term
    intro j hj
    have := ht j hj
    rw [hw.me, hw.sz] at this
    exact this
  · unfold stepR at he
    rw [if_neg hg] at he
    cases he
end Go.Proofs.Ytjpjiniclibgkaa.Sx
