/- The law RaftSteps, walked. Then: The law RaftTurns, walked. -/
import Derived.Test.YtjpjiniclibgkaaKeepG
import Derived.Test.YtjpjiniclibgkaaKeepH
namespace Go.Proofs.Ytjpjiniclibgkaa.Sx
open Go

def S26 : List (Nat × Spec) := (10, wakesSpec) :: S25
theorem S26_all : ∀ f s, findS S26 f = some s → SpecOk Try.prog f s := CP_cons S25_all wakes_ok
theorem S26_ok : CPOk Try.prog (CPs S26) := CPs_ok S26_all
def lawStepsSpec : Spec where
  A := StepG
  R := fun ⟨n, A, c, k, D, e, m⟩ => (Cells m A (itemsV n.log.items) ∧ n.log.items.length ≤ c ∧ n.log.items.length < 2 ^ 62) ∧ (Cells m D (itemsV k.items) ∧ k.items.length ≤ e ∧ k.items.length < 2 ^ 62)
  J := fun ⟨_, _, _, _, _, _, m⟩ => m
  args := fun ⟨n, A, c, k, D, e, _⟩ => [.g (nodeC n (.sl A n.log.items.length c)), .g (msgC k (.sl D k.items.length e))]
  h := fun _ => []
  nx := 0
  Bb := Unit
  C := fun _ _ => True
  out := fun _ _ => .ret (.b true)
  h2 := fun _ _ => []
  nx2 := 0
theorem feed_len (n : Node) (to : Int) : (feedN n to).items.length ≤ 16 := by
  show (feedK n to).items.length ≤ 16
  unfold feedK
  split
  · exact Nat.zero_le _
  · show (List.take 16 _).length ≤ 16
    rw [List.length_take]; omega
theorem feedAll_len (n : Node) : ∀ k ∈ feedAllK n, k.items.length ≤ 16 := by
  intro k hk
  obtain ⟨i, _, rfl⟩ := List.mem_map.1 hk
  exact feed_len n i
theorem feedAll_cnt (n : Node) : (feedAllK n).length ≤ n.size.toNat := by
  unfold feedAllK; rw [List.length_map]; exact others_len n _
def Brief (r : HeardR) : Prop := ∀ a, r.k = some a → a.items = []
theorem brief_ask (n : Node) (k : Msg) : Brief (askR n k) := by rintro a h; cases h; rfl
theorem brief_lay (n : Node) (k : Msg) (a : Int) (xs : List Item) : Brief (layR n k a xs) := by
  intro b h
  unfold layR at h
  split at h <;> cases h
  rfl
theorem brief_append (n : Node) (k : Msg) : Brief (appendR n k) := by
  intro a h
  unfold appendR at h
  split at h
  · split at h
    · cases h
    · split at h
      · cases h; rfl
      · exact brief_lay _ _ _ _ a h
  · split at h
    · cases h; rfl
    · exact brief_lay _ _ _ _ a h
theorem brief_install (n : Node) (k : Msg) : Brief (installR n k) := by
  intro a h
  unfold installR at h
  split at h <;> cases h <;> rfl
structure Short (ks : List Msg) : Prop where
  l : ks.length ≤ 100
  i : ∀ j ∈ ks, j.items.length ≤ 16
theorem Short.nil : Short [] := ⟨Nat.zero_le _, fun _ h => by cases h⟩
theorem Short.one {k : Msg} (h : k.items.length ≤ 16) : Short [k] := ⟨by show 1 ≤ 100; omega, fun j hj => by obtain rfl := List.mem_singleton.1 hj; exact h⟩
theorem Short.feedAll {n : Node} (h : n.size ≤ 7) : Short (feedAllK n) := ⟨by have := feedAll_cnt n; omega, feedAll_len n⟩
theorem Short.heard {a : Node} {k : Msg} {r : HeardR} (h : Brief r) : Short (heardS a k r).ks := by
  show Short (repl1 a k r)
  unfold repl1
  cases hk : r.k with
  | none => exact Short.nil
  | some b =>
    refine Short.one ?_
    show b.items.length ≤ 16
    rw [h b hk]; exact Nat.zero_le _
theorem win_size (n : Node) : (winN n).size = n.size := by unfold winN; split <;> rfl
theorem Short.lead {n : Node} (h : n.size ≤ 7) : Short (leadS n).ks := by
  unfold leadS
  split
  · exact Short.feedAll (by rw [win_size]; exact h)
  · exact Short.nil
theorem heardK_short {n : Node} (k : Msg) (h : n.size ≤ 7) : Short (heardK n k).ks := by
  unfold heardK
  split
  · exact Short.heard (brief_ask n k)
  split
  · split
    · exact Short.lead h
    · exact Short.nil
  split
  · show Short (if gotY n k = true then _ else _)
    split
    · exact Short.one (feed_len _ _)
    · exact Short.nil
  · unfold leaderS
    split
    · exact Short.one (Nat.zero_le _)
    split
    · exact Short.nil
    split
    · exact Short.heard (brief_append _ _)
    · exact Short.heard (brief_install _ _)
/-- No answer is long. -/
theorem step_short (n : Node) (k : Msg) : Short (stepR n k).ks := by
  unfold stepR
  split
  · rename_i h
    have hf := fine_iff.1 h.1
    refine heardK_short k ?_
    have : (turnN n k).size = n.size := by unfold turnN; split <;> rfl
    rw [this]; exact hf.s2
  · exact Short.nil
theorem step_len (n : Node) (k : Msg) : (stepR n k).n.log.items.length < 2 ^ 62 := by
  by_cases h : goodB n = true ∧ soundB n k = true
  · exact Nat.lt_of_le_of_lt (step_onto (fine_iff.1 h.1) (heard_iff.1 h.2)).1.l (by decide)
  · unfold stepR; rw [if_neg h]; decide
set_option maxRecDepth 100000 in
set_option maxHeartbeats 1600000 in
theorem lawSteps_ok : SpecOk Try.prog 3 lawStepsSpec := by
  refine spec_of_exec (fn := Try.f3) (c := Try.f3.body.getD .skip) (d := 0) (lv := ([0, 1, 2, 3, 4, 5, 6, 7, 8, 9, 10, 12, 15])) (DP := DPx T1 (CPs S26) ([0, 1, 2, 3, 4, 5, 6, 7, 8, 9, 10, 12, 15])) T1_ok S26_ok (fun B => DPx_ok T1_ok ord S26_ok B) lawStepsSpec (by rfl) (by rfl) (by rfl) (fun _ => Nat.le_of_ble_eq_true (by kernel_rfl)) ?_
  rintro ⟨n, A, c, k, D, e, m⟩ ⟨⟨hM, hcap, hl⟩, ⟨hD, hde, hkl⟩⟩
  have hsh := step_short n k
  conv => whnf
  refine ⟨m, trivial, ?_⟩
  conv => whnf
  repeat (first | exact trivial | (refine ⟨by first | exact ⟨rfl, rfl, rfl⟩ | rfl | exact ⟨rfl, rfl⟩ | exact ⟨rfl, fun _ _ => rfl⟩ | exact fun _ _ h => h | (intro _ _ h; cases h; done), ?_⟩; conv => whnf))
  intro _ _
  conv => whnf
  refine ⟨fun h => (by cases h), fun _ => ?_⟩
  conv => whnf
  refine ⟨⟨n, A, c, k, D, e, m⟩, ⟨⟨hM, hl⟩, ⟨hD, hkl⟩⟩, ?_⟩
  conv => whnf
  repeat (first | exact trivial | (refine ⟨by first | exact ⟨rfl, rfl, rfl⟩ | rfl | exact ⟨rfl, rfl⟩ | exact ⟨rfl, fun _ _ => rfl⟩ | exact fun _ _ h => h | (intro _ _ h; cases h; done), ?_⟩; conv => whnf))
  intro hv _
  conv => whnf
  refine ⟨fun _ => ?_, fun _ => ?_⟩
  · refine ⟨(), trivial, ?_⟩
    conv => whnf
    repeat (first | exact trivial | exact fun _ _ h => h | (refine ⟨by first | exact ⟨rfl, rfl, rfl⟩ | rfl | exact ⟨rfl, rfl⟩ | exact ⟨rfl, fun _ _ => rfl⟩ | exact fun _ _ h => h | (intro _ _ h; cases h; done), ?_⟩; conv => whnf))
  conv => whnf
  refine ⟨⟨n, A, c, k, D, e, m⟩, ⟨⟨hM, hcap, hl⟩, ⟨hD, hde, hkl⟩⟩, ?_⟩
  conv => whnf
  repeat (first | exact trivial | (refine ⟨by first | exact ⟨rfl, rfl, rfl⟩ | rfl | exact ⟨rfl, rfl⟩ | exact ⟨rfl, fun _ _ => rfl⟩ | exact fun _ _ h => h | (intro _ _ h; cases h; done), ?_⟩; conv => whnf))
  rintro ⟨n1, A1, c1, os1, O1, oc1, m1⟩ ⟨hn1, hk1, ⟨hc1, hle1⟩, ⟨ho1, hoc1⟩, hs1, hx1⟩ m2 h02 h12
  conv => whnf
  refine ⟨⟨n, A, c, k, D, e, m2⟩, ⟨⟨hM.ext h02, hcap, hl⟩, ⟨hD.ext h02, hde, hkl⟩⟩, ?_⟩
  conv => whnf
  repeat (first | exact trivial | (refine ⟨by first | exact ⟨rfl, rfl, rfl⟩ | rfl | exact ⟨rfl, rfl⟩ | exact ⟨rfl, fun _ _ => rfl⟩ | exact fun _ _ h => h | (intro _ _ h; cases h; done), ?_⟩; conv => whnf))
  rintro ⟨n3, A3, c3, os3, O3, oc3, m3⟩ ⟨hn3, hk3, ⟨hc3, hle3⟩, ⟨ho3, hoc3⟩, hs3, hx3⟩ m4 h24 h34
  have hkm : os3.map (·.k) = os1.map (·.k) := hk3.trans hk1.symm
  have hnn : n3 = n1 := hn3.trans hn1.symm
  subst hnn
  have hshort : ∀ k ∈ os1.map (·.k), k.items.length < 2 ^ 62 := fun j hj => Nat.lt_of_le_of_lt (hsh.i j (hk1 ▸ hj)) (by decide)
  have hlen1 : (os1.map (·.k)).length < 2 ^ 62 := Nat.lt_of_le_of_lt (hk1 ▸ hsh.l) (by decide)
  conv => whnf
  refine Or.inr ⟨[0, 1], sc3_7, by kernel_rfl, ?_⟩
  conv => whnf
  refine ⟨⟨n3, A1, c1, A3, c3, m4⟩, ⟨(hc1.ext h12).ext h24, hc3.ext h34, by rw [show n3 = (stepR n k).n from hn3]; exact step_len n k⟩, ?_⟩
  conv => whnf
  repeat (first | exact trivial | (refine ⟨by first | exact ⟨rfl, rfl, rfl⟩ | rfl | exact ⟨rfl, rfl⟩ | exact ⟨rfl, fun _ _ => rfl⟩ | exact fun _ _ h => h | (intro _ _ h; cases h; done), ?_⟩; conv => whnf))
  intro _ _
  repeat (first | exact trivial | (refine ⟨by first | exact ⟨rfl, rfl, rfl⟩ | rfl | exact ⟨rfl, rfl⟩ | exact ⟨rfl, fun _ _ => rfl⟩ | exact fun _ _ h => h | (intro _ _ h; cases h; done), ?_⟩; conv => whnf))
  refine ⟨fun _ => ?_, fun h => (by cases h)⟩
  conv => whnf
  refine ⟨⟨os1.map (·.k), os1, O1, oc1, os3, O3, oc3, m4⟩, ⟨⟨rfl, hkm⟩, ⟨(ho1.ext h12).ext h24, (hs1.ext h12).ext h24⟩, ⟨ho3.ext h34, hs3.ext h34⟩, hlen1, hshort⟩, ?_⟩
  conv => whnf
  repeat (first | exact trivial | (refine ⟨by first | exact ⟨rfl, rfl, rfl⟩ | rfl | exact ⟨rfl, rfl⟩ | exact ⟨rfl, fun _ _ => rfl⟩ | exact fun _ _ h => h | (intro _ _ h; cases h; done), ?_⟩; conv => whnf))
  intro _ _
  repeat (first | exact trivial | (refine ⟨by first | exact ⟨rfl, rfl, rfl⟩ | rfl | exact ⟨rfl, rfl⟩ | exact ⟨rfl, fun _ _ => rfl⟩ | exact fun _ _ h => h | (intro _ _ h; cases h; done), ?_⟩; conv => whnf))
  refine ⟨fun _ => ?_, fun h => absurd h (by simp)⟩
  conv => whnf
  refine ⟨⟨n, A, c, m4⟩, ⟨(hM.ext h02).ext h24, hl⟩, ?_⟩
  conv => whnf
  repeat (first | exact trivial | (refine ⟨by first | exact ⟨rfl, rfl, rfl⟩ | rfl | exact ⟨rfl, rfl⟩ | exact ⟨rfl, fun _ _ => rfl⟩ | exact fun _ _ h => h | (intro _ _ h; cases h; done), ?_⟩; conv => whnf))
  intro _ _
  repeat (first | exact trivial | (refine ⟨by first | exact ⟨rfl, rfl, rfl⟩ | rfl | exact ⟨rfl, rfl⟩ | exact ⟨rfl, fun _ _ => rfl⟩ | exact fun _ _ h => h | (intro _ _ h; cases h; done), ?_⟩; conv => whnf))
  refine ⟨⟨n, A, c, m4⟩, ⟨(hM.ext h02).ext h24, hl⟩, ?_⟩
  conv => whnf
  repeat (first | exact trivial | (refine ⟨by first | exact ⟨rfl, rfl, rfl⟩ | rfl | exact ⟨rfl, rfl⟩ | exact ⟨rfl, fun _ _ => rfl⟩ | exact fun _ _ h => h | (intro _ _ h; cases h; done), ?_⟩; conv => whnf))
  intro _ _
  repeat (first | exact trivial | (refine ⟨by first | exact ⟨rfl, rfl, rfl⟩ | rfl | exact ⟨rfl, rfl⟩ | exact ⟨rfl, fun _ _ => rfl⟩ | exact fun _ _ h => h | (intro _ _ h; cases h; done), ?_⟩; conv => whnf))
  refine ⟨fun _ => ?_, fun h => absurd h (by simp)⟩
  conv => whnf
  refine ⟨⟨n, A, c, k, D, e, m4⟩, ⟨(hD.ext h02).ext h24, hkl⟩, ?_⟩
  conv => whnf
  repeat (first | exact trivial | (refine ⟨by first | exact ⟨rfl, rfl, rfl⟩ | rfl | exact ⟨rfl, rfl⟩ | exact ⟨rfl, fun _ _ => rfl⟩ | exact fun _ _ h => h | (intro _ _ h; cases h; done), ?_⟩; conv => whnf))
  intro _ _
  repeat (first | exact trivial | (refine ⟨by first | exact ⟨rfl, rfl, rfl⟩ | rfl | exact ⟨rfl, rfl⟩ | exact ⟨rfl, fun _ _ => rfl⟩ | exact fun _ _ h => h | (intro _ _ h; cases h; done), ?_⟩; conv => whnf))
  refine ⟨⟨n, A, c, k, D, e, m4⟩, ⟨(hD.ext h02).ext h24, hkl⟩, ?_⟩
  conv => whnf
  repeat (first | exact trivial | (refine ⟨by first | exact ⟨rfl, rfl, rfl⟩ | rfl | exact ⟨rfl, rfl⟩ | exact ⟨rfl, fun _ _ => rfl⟩ | exact fun _ _ h => h | (intro _ _ h; cases h; done), ?_⟩; conv => whnf))
  intro _ _
  repeat (first | exact trivial | (refine ⟨by first | exact ⟨rfl, rfl, rfl⟩ | rfl | exact ⟨rfl, rfl⟩ | exact ⟨rfl, fun _ _ => rfl⟩ | exact fun _ _ h => h | (intro _ _ h; cases h; done), ?_⟩; conv => whnf))
  refine ⟨(), trivial, ?_⟩
  conv => whnf
  repeat (first | exact trivial | exact fun _ _ h => h | (refine ⟨by first | exact ⟨rfl, rfl, rfl⟩ | rfl | exact ⟨rfl, rfl⟩ | exact ⟨rfl, fun _ _ => rfl⟩ | exact fun _ _ h => h | (intro _ _ h; cases h; done) | simp, ?_⟩; conv => whnf))
  exact ext_trans h02 h24
end Go.Proofs.Ytjpjiniclibgkaa.Sx

namespace Go.Proofs.Ytjpjiniclibgkaa.Sx
open Go

def S27 : List (Nat × Spec) := (23, turnSpec beatR) :: (25, turnSpec beatR) :: (27, propSpec) :: (29, propSpec) :: (30, compSpec) :: (31, compSpec) :: S26
theorem S27_all : ∀ f s, findS S27 f = some s → SpecOk Try.prog f s := CP_cons (CP_cons (CP_cons (CP_cons (CP_cons (CP_cons S26_all refCompact_ok) compact_ok) refPropose_ok) propose_ok) refBeat_ok) beat_ok
theorem S27_ok : CPOk Try.prog (CPs S27) := CPs_ok S27_all
theorem Short.append {a b : List Msg} (ha : a.length ≤ 50) (hi : ∀ j ∈ a, j.items.length ≤ 16) (hb : b.length ≤ 50) (hj : ∀ j ∈ b, j.items.length ≤ 16) : Short (a ++ b) :=
  ⟨by rw [List.length_append]; omega, fun j h => (List.mem_append.1 h).elim (hi j) (hj j)⟩
theorem asks_brief (n : Node) (a b : Int) (i : Nat) : ∀ j ∈ asksK n a b i, j.items.length ≤ 16 := by
  intro k hk
  obtain ⟨i, _, rfl⟩ := List.mem_map.1 hk
  exact Nat.zero_le _
theorem timeout_short (n : Node) : Short (timeoutR n).ks := by
  unfold timeoutR
  split
  · rename_i h
    have hf := fine_iff.1 h
    have hs := hf.s2
    split
    · exact Short.nil
    · have hl : Short (leadS (candN n)).ks := Short.lead (n := candN n) hs
      have h1 := asks_len (candN n) (lastN n.log).1 (lastN n.log).2 n.size.toNat
      have h2 : (leadS (candN n)).ks.length ≤ 50 := by
        unfold leadS
        split
        · have := feedAll_cnt (winN (candN n)); rw [win_size] at this; have h3 : (candN n).size = n.size := rfl; rw [h3] at this; show (feedAllK _).length ≤ 50; omega
        · exact Nat.zero_le _
      exact Short.append (by show (asksK _ _ _ _).length ≤ 50; omega) (asks_brief _ _ _ _) h2 hl.i
  · exact Short.nil
theorem beat_short (n : Node) : Short (beatR n).ks := by
  unfold beatR
  split
  · rename_i h
    split
    · exact Short.feedAll (fine_iff.1 h).s2
    · exact Short.nil
  · exact Short.nil
theorem propose_short (n : Node) (e : Entry) : Short (proposeR n e).ks := by
  unfold proposeR
  split
  · rename_i h
    split
    · split
      · exact Short.feedAll (n := putN n e) (fine_iff.1 h.1).s2
      · exact Short.nil
    · exact Short.nil
  · exact Short.nil
def bB : ByteArray := ⟨#[98]⟩
structure TurnsG where
  n : Node
  A : Option Addr
  c : Nat
  e : Entry
  i : Int
  m : Mem
def lawTurnsSpec : Spec where
  A := TurnsG
  R := fun ⟨n, A, c, _, i, m⟩ => Cells m A (itemsV n.log.items) ∧ n.log.items.length ≤ c ∧ n.log.items.length < 2 ^ 62 ∧ fits n.log.base ∧ fits n.me ∧ fits n.size ∧ fits i
  J := fun ⟨_, _, _, _, _, m⟩ => m
  args := fun ⟨n, A, c, e, i, _⟩ => [.g (nodeC n (.sl A n.log.items.length c)), .g (entryC e), .i .i64 i]
  h := fun _ => []
  nx := 0
  Bb := Unit
  C := fun _ _ => True
  out := fun _ _ => .ret (.b true)
  h2 := fun _ _ => []
  nx2 := 0
theorem timeout_len (n : Node) : (timeoutR n).n.log.items.length < 2 ^ 62 := by
  by_cases h : goodB n = true
  · exact Nat.lt_of_le_of_lt (timeout_onto (fine_iff.1 h)).1.l (by decide)
  · unfold timeoutR; rw [if_neg h]; decide
theorem beat_len (n : Node) : (beatR n).n.log.items.length < 2 ^ 62 := by
  by_cases h : goodB n = true
  · rw [(beat_onto (fine_iff.1 h)).1]; exact Nat.lt_of_le_of_lt (fine_iff.1 h).l (by decide)
  · unfold beatR; rw [if_neg h]; decide
theorem propose_len (n : Node) (e : Entry) : (proposeR n e).n.log.items.length < 2 ^ 62 := by
  by_cases h : (proposeR n e).e = 0
  · by_cases hg : goodB n = true
    · exact Nat.lt_of_le_of_lt (propose_onto (fine_iff.1 hg) h).1.l (by decide)
    · unfold proposeR at h
      rw [if_neg (fun x => hg x.1)] at h; cases h
  · unfold proposeR at h ⊢
    split
    · rename_i h1
      rw [if_pos h1] at h
      split
      · rename_i h2
        rw [if_pos h2] at h
        split
        · rename_i h3
          rw [if_pos h3] at h
          exact absurd rfl h
        · decide
      · decide
    · decide
theorem compact_len (n : Node) (i : Int) (b : ByteArray) : (compactR n i b).n.log.items.length < 2 ^ 62 := by
  unfold compactR
  split
  · rename_i h
    have := (fine_iff.1 h.1).l
    show (n.log.items.drop _).length < _
    rw [List.length_drop]; omega
  · decide
theorem new_len {me size : Int} {l : Log} (h : l.items.length < 2 ^ 62) : (newR me size l).n.log.items.length < 2 ^ 62 := by
  unfold newR
  split
  · exact h
  · decide
set_option maxRecDepth 100000 in
set_option maxHeartbeats 3200000 in
theorem lawTurns_ok : SpecOk Try.prog 7 lawTurnsSpec := by
  refine spec_of_exec (fn := Try.f7) (c := Try.f7.body.getD .skip) (d := 0) (lv := ([0, 1, 2, 3, 4, 6, 7, 8, 9, 10, 11, 12, 13, 14, 15, 16, 17, 18, 19, 20, 21, 22, 24, 33, 60, 87, 123, 144, 186, 209])) (DP := DPx T1 (CPs S27) ([0, 1, 2, 3, 4, 6, 7, 8, 9, 10, 11, 12, 13, 14, 15, 16, 17, 18, 19, 20, 21, 22, 24, 33, 60, 87, 123, 144, 186, 209])) T1_ok S27_ok (fun B => DPx_ok T1_ok ord S27_ok B) lawTurnsSpec (by rfl) (by rfl) (by rfl) (fun _ => Nat.le_of_ble_eq_true (by kernel_rfl)) ?_
  rintro ⟨n, A, c, e, i, m⟩ ⟨hM, hcap, hl, hfb, hfm, hfs, hfi⟩
  have hT := timeout_short n
  have hB := beat_short n
  have hP := propose_short n e
  conv => whnf
  refine ⟨m, trivial, ?_⟩
  conv => whnf
  repeat (first | exact trivial | (refine ⟨by first | exact ⟨rfl, rfl, rfl⟩ | rfl | exact ⟨rfl, rfl⟩ | exact ⟨rfl, fun _ _ => rfl⟩ | exact fun _ _ h => h | (intro _ _ h; cases h; done), ?_⟩; conv => whnf))
  intro _ _
  conv => whnf
  refine ⟨fun h => (by cases h), fun _ => ?_⟩
  conv => whnf
  refine ⟨⟨n, A, c, zeroM, none, 0, m⟩, ⟨⟨hM, hl⟩, ⟨Cells.nil _ _, by decide⟩⟩, ?_⟩
  conv => whnf
  repeat (first | exact trivial | (refine ⟨by first | exact ⟨rfl, rfl, rfl⟩ | rfl | exact ⟨rfl, rfl⟩ | exact ⟨rfl, fun _ _ => rfl⟩ | exact fun _ _ h => h | (intro _ _ h; cases h; done), ?_⟩; conv => whnf))
  intro hv hhv
  conv => whnf
  refine ⟨fun _ => ?_, fun _ => ?_⟩
  · refine ⟨(), trivial, ?_⟩
    conv => whnf
    repeat (first | exact trivial | exact fun _ _ h => h | (refine ⟨by first | exact ⟨rfl, rfl, rfl⟩ | rfl | exact ⟨rfl, rfl⟩ | exact ⟨rfl, fun _ _ => rfl⟩ | exact fun _ _ h => h | (intro _ _ h; cases h; done), ?_⟩; conv => whnf))
  conv => whnf
  have hall : ∀ b o, m b = some o → m b = some o := fun _ _ h => h
  refine ⟨⟨n, A, c, m⟩, ⟨hM, hcap, hl⟩, ?_⟩
  conv => whnf
  repeat (first | exact trivial | (refine ⟨by first | exact ⟨rfl, rfl, rfl⟩ | rfl | exact ⟨rfl, rfl⟩ | exact ⟨rfl, fun _ _ => rfl⟩ | exact fun _ _ h => h | (intro _ _ h; cases h; done), ?_⟩; conv => whnf))
  rintro ⟨n1, A1, c1, os1, O1, oc1, m1⟩ ⟨hn1, hk1, ⟨hc1, hle1⟩, ⟨ho1, hoc1⟩, hs1, hx1⟩ m2 h02 h12
  have hM := hM.ext h02
  conv => whnf
  refine ⟨⟨n, A, c, m2⟩, ⟨hM, hcap, hl⟩, ?_⟩
  conv => whnf
  repeat (first | exact trivial | (refine ⟨by first | exact ⟨rfl, rfl, rfl⟩ | rfl | exact ⟨rfl, rfl⟩ | exact ⟨rfl, fun _ _ => rfl⟩ | exact fun _ _ h => h | (intro _ _ h; cases h; done), ?_⟩; conv => whnf))
  rintro ⟨n3, A3, c3, os3, O3, oc3, m3⟩ ⟨hn3, hk3, ⟨hc3, hle3⟩, ⟨ho3, hoc3⟩, hs3, hx3⟩ m4 h24 h34
  have hM := hM.ext h24
  have hall := ext_trans hall (ext_trans h02 h24)
  have hn1 : n1 = (timeoutR n).n := hn1
  have hn3 : n3 = (timeoutR n).n := hn3
  have hk1 : os1.map (·.k) = (timeoutR n).ks := hk1
  have hk3 : os3.map (·.k) = (timeoutR n).ks := hk3
  have hnn : n3 = n1 := hn3.trans hn1.symm
  subst hnn
  have hkm : os3.map (·.k) = os1.map (·.k) := hk3.trans hk1.symm
  have hshort : ∀ k ∈ os1.map (·.k), k.items.length < 2 ^ 62 := fun j hj => Nat.lt_of_le_of_lt ((hT).i j (hk1 ▸ hj)) (by decide)
  have hlen1 : (os1.map (·.k)).length < 2 ^ 62 := Nat.lt_of_le_of_lt (hk1 ▸ (hT).l) (by decide)
  have hnl : n3.log.items.length < 2 ^ 62 := by rw [hn1]; exact timeout_len n
  conv => whnf
  refine ⟨⟨n3, A1, c1, A3, c3, m4⟩, ⟨(hc1.ext h12).ext h24, hc3.ext h34, hnl⟩, ?_⟩
  conv => whnf
  repeat (first | exact trivial | (refine ⟨by first | exact ⟨rfl, rfl, rfl⟩ | rfl | exact ⟨rfl, rfl⟩ | exact ⟨rfl, fun _ _ => rfl⟩ | exact fun _ _ h => h | (intro _ _ h; cases h; done), ?_⟩; conv => whnf))
  intro _ _
  conv => whnf
  refine ⟨fun h => absurd h (by simp), fun _ => ?_⟩
  conv => whnf
  refine ⟨⟨os1.map (·.k), os1, O1, oc1, os3, O3, oc3, m4⟩, ⟨⟨rfl, hkm⟩, ⟨(ho1.ext h12).ext h24, (hs1.ext h12).ext h24⟩, ⟨ho3.ext h34, hs3.ext h34⟩, hlen1, hshort⟩, ?_⟩
  conv => whnf
  repeat (first | exact trivial | (refine ⟨by first | exact ⟨rfl, rfl, rfl⟩ | rfl | exact ⟨rfl, rfl⟩ | exact ⟨rfl, fun _ _ => rfl⟩ | exact fun _ _ h => h | (intro _ _ h; cases h; done), ?_⟩; conv => whnf))
  intro _ _
  conv => whnf
  refine ⟨fun h => absurd h (by simp), fun _ => ?_⟩
  conv => whnf
  refine ⟨⟨n, A, c, m4⟩, ⟨hM, hcap, hl⟩, ?_⟩
  conv => whnf
  repeat (first | exact trivial | (refine ⟨by first | exact ⟨rfl, rfl, rfl⟩ | rfl | exact ⟨rfl, rfl⟩ | exact ⟨rfl, fun _ _ => rfl⟩ | exact fun _ _ h => h | (intro _ _ h; cases h; done), ?_⟩; conv => whnf))
  rintro ⟨n1, A1, c1, os1, O1, oc1, m1⟩ ⟨hn1, hk1, ⟨hc1, hle1⟩, ⟨ho1, hoc1⟩, hs1, hx1⟩ m2 h02 h12
  have hM := hM.ext h02
  conv => whnf
  refine ⟨⟨n, A, c, m2⟩, ⟨hM, hcap, hl⟩, ?_⟩
  conv => whnf
  repeat (first | exact trivial | (refine ⟨by first | exact ⟨rfl, rfl, rfl⟩ | rfl | exact ⟨rfl, rfl⟩ | exact ⟨rfl, fun _ _ => rfl⟩ | exact fun _ _ h => h | (intro _ _ h; cases h; done), ?_⟩; conv => whnf))
  rintro ⟨n3, A3, c3, os3, O3, oc3, m3⟩ ⟨hn3, hk3, ⟨hc3, hle3⟩, ⟨ho3, hoc3⟩, hs3, hx3⟩ m4 h24 h34
  have hM := hM.ext h24
  have hall := ext_trans hall (ext_trans h02 h24)
  have hn1 : n1 = (beatR n).n := hn1
  have hn3 : n3 = (beatR n).n := hn3
  have hk1 : os1.map (·.k) = (beatR n).ks := hk1
  have hk3 : os3.map (·.k) = (beatR n).ks := hk3
  have hnn : n3 = n1 := hn3.trans hn1.symm
  subst hnn
  have hkm : os3.map (·.k) = os1.map (·.k) := hk3.trans hk1.symm
  have hshort : ∀ k ∈ os1.map (·.k), k.items.length < 2 ^ 62 := fun j hj => Nat.lt_of_le_of_lt ((hB).i j (hk1 ▸ hj)) (by decide)
  have hlen1 : (os1.map (·.k)).length < 2 ^ 62 := Nat.lt_of_le_of_lt (hk1 ▸ (hB).l) (by decide)
  have hnl : n3.log.items.length < 2 ^ 62 := by rw [hn1]; exact beat_len n
  conv => whnf
  refine ⟨⟨n3, A1, c1, A3, c3, m4⟩, ⟨(hc1.ext h12).ext h24, hc3.ext h34, hnl⟩, ?_⟩
  conv => whnf
  repeat (first | exact trivial | (refine ⟨by first | exact ⟨rfl, rfl, rfl⟩ | rfl | exact ⟨rfl, rfl⟩ | exact ⟨rfl, fun _ _ => rfl⟩ | exact fun _ _ h => h | (intro _ _ h; cases h; done), ?_⟩; conv => whnf))
  intro _ _
  conv => whnf
  refine ⟨fun h => absurd h (by simp), fun _ => ?_⟩
  conv => whnf
  refine ⟨⟨os1.map (·.k), os1, O1, oc1, os3, O3, oc3, m4⟩, ⟨⟨rfl, hkm⟩, ⟨(ho1.ext h12).ext h24, (hs1.ext h12).ext h24⟩, ⟨ho3.ext h34, hs3.ext h34⟩, hlen1, hshort⟩, ?_⟩
  conv => whnf
  repeat (first | exact trivial | (refine ⟨by first | exact ⟨rfl, rfl, rfl⟩ | rfl | exact ⟨rfl, rfl⟩ | exact ⟨rfl, fun _ _ => rfl⟩ | exact fun _ _ h => h | (intro _ _ h; cases h; done), ?_⟩; conv => whnf))
  intro _ _
  conv => whnf
  refine ⟨fun h => absurd h (by simp), fun _ => ?_⟩
  conv => whnf
  refine ⟨⟨n, A, c, e, m4⟩, ⟨hM, hcap, hl⟩, ?_⟩
  conv => whnf
  repeat (first | exact trivial | (refine ⟨by first | exact ⟨rfl, rfl, rfl⟩ | rfl | exact ⟨rfl, rfl⟩ | exact ⟨rfl, fun _ _ => rfl⟩ | exact fun _ _ h => h | (intro _ _ h; cases h; done), ?_⟩; conv => whnf))
  rintro ⟨n1, A1, c1, os1, O1, oc1, m1⟩ ⟨hn1, hk1, ⟨hc1, hle1⟩, ⟨ho1, hoc1⟩, hs1, hx1⟩ m2 h02 h12
  have hM := hM.ext h02
  conv => whnf
  refine ⟨⟨n, A, c, e, m2⟩, ⟨hM, hcap, hl⟩, ?_⟩
  conv => whnf
  repeat (first | exact trivial | (refine ⟨by first | exact ⟨rfl, rfl, rfl⟩ | rfl | exact ⟨rfl, rfl⟩ | exact ⟨rfl, fun _ _ => rfl⟩ | exact fun _ _ h => h | (intro _ _ h; cases h; done), ?_⟩; conv => whnf))
  rintro ⟨n3, A3, c3, os3, O3, oc3, m3⟩ ⟨hn3, hk3, ⟨hc3, hle3⟩, ⟨ho3, hoc3⟩, hs3, hx3⟩ m4 h24 h34
  have hM := hM.ext h24
  have hall := ext_trans hall (ext_trans h02 h24)
  have hn1 : n1 = (proposeR n e).n := hn1
  have hn3 : n3 = (proposeR n e).n := hn3
  have hk1 : os1.map (·.k) = (proposeR n e).ks := hk1
  have hk3 : os3.map (·.k) = (proposeR n e).ks := hk3
  have hnn : n3 = n1 := hn3.trans hn1.symm
  subst hnn
  have hkm : os3.map (·.k) = os1.map (·.k) := hk3.trans hk1.symm
  have hshort : ∀ k ∈ os1.map (·.k), k.items.length < 2 ^ 62 := fun j hj => Nat.lt_of_le_of_lt ((hP).i j (hk1 ▸ hj)) (by decide)
  have hlen1 : (os1.map (·.k)).length < 2 ^ 62 := Nat.lt_of_le_of_lt (hk1 ▸ (hP).l) (by decide)
  have hnl : n3.log.items.length < 2 ^ 62 := by rw [hn1]; exact propose_len n e
  conv => whnf
  refine ⟨⟨n3, A1, c1, A3, c3, m4⟩, ⟨(hc1.ext h12).ext h24, hc3.ext h34, hnl⟩, ?_⟩
  conv => whnf
  repeat (first | exact trivial | (refine ⟨by first | exact ⟨rfl, rfl, rfl⟩ | rfl | exact ⟨rfl, rfl⟩ | exact ⟨rfl, fun _ _ => rfl⟩ | exact fun _ _ h => h | (intro _ _ h; cases h; done), ?_⟩; conv => whnf))
  intro _ _
  conv => whnf
  refine ⟨fun h => absurd h (by simp), fun _ => ?_⟩
  conv => whnf
  refine ⟨⟨os1.map (·.k), os1, O1, oc1, os3, O3, oc3, m4⟩, ⟨⟨rfl, hkm⟩, ⟨(ho1.ext h12).ext h24, (hs1.ext h12).ext h24⟩, ⟨ho3.ext h34, hs3.ext h34⟩, hlen1, hshort⟩, ?_⟩
  conv => whnf
  repeat (first | exact trivial | (refine ⟨by first | exact ⟨rfl, rfl, rfl⟩ | rfl | exact ⟨rfl, rfl⟩ | exact ⟨rfl, fun _ _ => rfl⟩ | exact fun _ _ h => h | (intro _ _ h; cases h; done), ?_⟩; conv => whnf))
  intro _ _
  conv => whnf
  refine ⟨fun h => absurd h (by simp), fun _ => ?_⟩
  conv => whnf
  refine ⟨⟨n, A, c, i, bB, m4⟩, ⟨hM, hcap, hl⟩, ?_⟩
  conv => whnf
  repeat (first | exact trivial | (refine ⟨by first | exact ⟨rfl, rfl, rfl⟩ | rfl | exact ⟨rfl, rfl⟩ | exact ⟨rfl, fun _ _ => rfl⟩ | exact fun _ _ h => h | (intro _ _ h; cases h; done), ?_⟩; conv => whnf))
  rintro ⟨n1, A1, c1, m1⟩ ⟨hn1, ⟨hc1, hle1⟩, hx1⟩ m2 h02 h12
  have hM := hM.ext h02
  conv => whnf
  refine ⟨⟨n, A, c, i, bB, m2⟩, ⟨hM, hcap, hl⟩, ?_⟩
  conv => whnf
  repeat (first | exact trivial | (refine ⟨by first | exact ⟨rfl, rfl, rfl⟩ | rfl | exact ⟨rfl, rfl⟩ | exact ⟨rfl, fun _ _ => rfl⟩ | exact fun _ _ h => h | (intro _ _ h; cases h; done), ?_⟩; conv => whnf))
  rintro ⟨n3, A3, c3, m3⟩ ⟨hn3, ⟨hc3, hle3⟩, hx3⟩ m4 h24 h34
  have hM := hM.ext h24
  have hall := ext_trans hall (ext_trans h02 h24)
  have hn1 : n1 = (compactR n i bB).n := hn1
  have hn3 : n3 = (compactR n i bB).n := hn3
  have hnn : n3 = n1 := hn3.trans hn1.symm
  subst hnn
  have hnl : n3.log.items.length < 2 ^ 62 := by rw [hn1]; exact compact_len n i bB
  conv => whnf
  skip
  refine ⟨⟨n3, A1, c1, A3, c3, m4⟩, ⟨(hc1.ext h12).ext h24, hc3.ext h34, hnl⟩, ?_⟩
  conv => whnf
  repeat (first | exact trivial | (refine ⟨by first | exact ⟨rfl, rfl, rfl⟩ | rfl | exact ⟨rfl, rfl⟩ | exact ⟨rfl, fun _ _ => rfl⟩ | exact fun _ _ h => h | (intro _ _ h; cases h; done), ?_⟩; conv => whnf))
  intro _ _
  conv => whnf
  refine ⟨fun h => absurd h (by simp), fun _ => ?_⟩
  conv => whnf
  refine ⟨⟨n.me, n.size, n.log, A, c, m4⟩, ⟨hM, hl⟩, ?_⟩
  conv => whnf
  repeat (first | exact trivial | (refine ⟨by first | exact ⟨rfl, rfl, rfl⟩ | rfl | exact ⟨rfl, rfl⟩ | exact ⟨rfl, fun _ _ => rfl⟩ | exact fun _ _ h => h | (intro _ _ h; cases h; done), ?_⟩; conv => whnf))
  rintro ⟨n1, A1, c1, m1⟩ ⟨hn1, ⟨hc1, hle1⟩, hx1⟩ m2 h02 h12
  have hM := hM.ext h02
  conv => whnf
  refine ⟨⟨n.me, n.size, n.log, A, c, m2⟩, ⟨hM, hl⟩, ?_⟩
  conv => whnf
  repeat (first | exact trivial | (refine ⟨by first | exact ⟨rfl, rfl, rfl⟩ | rfl | exact ⟨rfl, rfl⟩ | exact ⟨rfl, fun _ _ => rfl⟩ | exact fun _ _ h => h | (intro _ _ h; cases h; done), ?_⟩; conv => whnf))
  rintro ⟨n3, A3, c3, m3⟩ ⟨hn3, ⟨hc3, hle3⟩, hx3⟩ m4 h24 h34
  have hM := hM.ext h24
  have hall := ext_trans hall (ext_trans h02 h24)
  have hn1 : n1 = (newR n.me n.size n.log).n := hn1
  have hn3 : n3 = (newR n.me n.size n.log).n := hn3
  have hnn : n3 = n1 := hn3.trans hn1.symm
  subst hnn
  have hnl : n3.log.items.length < 2 ^ 62 := by rw [hn1]; exact new_len hl
  conv => whnf
  refine Or.inr ⟨[0], sc7_23, by kernel_rfl, ?_⟩; conv => whnf
  refine ⟨⟨n3, A1, c1, A3, c3, m4⟩, ⟨(hc1.ext h12).ext h24, hc3.ext h34, hnl⟩, ?_⟩
  conv => whnf
  repeat (first | exact trivial | (refine ⟨by first | exact ⟨rfl, rfl, rfl⟩ | rfl | exact ⟨rfl, rfl⟩ | exact ⟨rfl, fun _ _ => rfl⟩ | exact fun _ _ h => h | (intro _ _ h; cases h; done), ?_⟩; conv => whnf))
  intro _ _
  repeat (first | exact trivial | (refine ⟨by first | exact ⟨rfl, rfl, rfl⟩ | rfl | exact ⟨rfl, rfl⟩ | exact ⟨rfl, fun _ _ => rfl⟩ | exact fun _ _ h => h | (intro _ _ h; cases h; done), ?_⟩; conv => whnf))
  refine ⟨fun h => absurd h (by simp), fun _ => ?_⟩
  conv => whnf
  refine ⟨⟨n.log, n.size, A, c, m4⟩, ⟨hM, hl⟩, ?_⟩
  conv => whnf
  repeat (first | exact trivial | (refine ⟨by first | exact ⟨rfl, rfl, rfl⟩ | rfl | exact ⟨rfl, rfl⟩ | exact ⟨rfl, fun _ _ => rfl⟩ | exact fun _ _ h => h | (intro _ _ h; cases h; done), ?_⟩; conv => whnf))
  intro _ _
  repeat (first | exact trivial | (refine ⟨by first | exact ⟨rfl, rfl, rfl⟩ | rfl | exact ⟨rfl, rfl⟩ | exact ⟨rfl, fun _ _ => rfl⟩ | exact fun _ _ h => h | (intro _ _ h; cases h; done), ?_⟩; conv => whnf))
  refine ⟨⟨n.log, n.size, A, c, m4⟩, ⟨hM, hl⟩, ?_⟩
  conv => whnf
  repeat (first | exact trivial | (refine ⟨by first | exact ⟨rfl, rfl, rfl⟩ | rfl | exact ⟨rfl, rfl⟩ | exact ⟨rfl, fun _ _ => rfl⟩ | exact fun _ _ h => h | (intro _ _ h; cases h; done), ?_⟩; conv => whnf))
  intro _ _
  repeat (first | exact trivial | (refine ⟨by first | exact ⟨rfl, rfl, rfl⟩ | rfl | exact ⟨rfl, rfl⟩ | exact ⟨rfl, fun _ _ => rfl⟩ | exact fun _ _ h => h | (intro _ _ h; cases h; done), ?_⟩; conv => whnf))
  refine ⟨fun h => absurd h (by simp), fun _ => ?_⟩
  conv => whnf
  refine ⟨⟨n.log, A, c, m4⟩, ⟨hM, hl⟩, ?_⟩
  conv => whnf
  repeat (first | exact trivial | (refine ⟨by first | exact ⟨rfl, rfl, rfl⟩ | rfl | exact ⟨rfl, rfl⟩ | exact ⟨rfl, fun _ _ => rfl⟩ | exact fun _ _ h => h | (intro _ _ h; cases h; done), ?_⟩; conv => whnf))
  intro _ _
  conv => whnf
  refine ⟨⟨n.log, A, c, i, m4⟩, ⟨hM, hl, hfi, hfb⟩, ?_⟩
  conv => whnf
  repeat (first | exact trivial | (refine ⟨by first | exact ⟨rfl, rfl, rfl⟩ | rfl | exact ⟨rfl, rfl⟩ | exact ⟨rfl, fun _ _ => rfl⟩ | exact fun _ _ h => h | (intro _ _ h; cases h; done), ?_⟩; conv => whnf))
  intro _ _
  conv => whnf
  refine ⟨fun _ => ?_, fun _ => ?_⟩
  · refine ⟨(), trivial, ?_⟩
    conv => whnf
    repeat (first | exact trivial | exact fun _ _ h => h | (refine ⟨by first | exact ⟨rfl, rfl, rfl⟩ | rfl | exact ⟨rfl, rfl⟩ | exact ⟨rfl, fun _ _ => rfl⟩ | exact fun _ _ h => h | (intro _ _ h; cases h; done), ?_⟩; conv => whnf))
    exact hall
  conv => whnf
  refine ⟨⟨n.log, A, c, m4⟩, ⟨hM, hl⟩, ?_⟩
  conv => whnf
  repeat (first | exact trivial | (refine ⟨by first | exact ⟨rfl, rfl, rfl⟩ | rfl | exact ⟨rfl, rfl⟩ | exact ⟨rfl, fun _ _ => rfl⟩ | exact fun _ _ h => h | (intro _ _ h; cases h; done), ?_⟩; conv => whnf))
  intro _ _
  conv => whnf
  refine ⟨⟨n.log, A, c, i, m4⟩, ⟨hM, hl, hfi, hfb⟩, ?_⟩
  conv => whnf
  repeat (first | exact trivial | (refine ⟨by first | exact ⟨rfl, rfl, rfl⟩ | rfl | exact ⟨rfl, rfl⟩ | exact ⟨rfl, fun _ _ => rfl⟩ | exact fun _ _ h => h | (intro _ _ h; cases h; done), ?_⟩; conv => whnf))
  intro _ _
  conv => whnf
  refine ⟨fun _ => ?_, fun h => absurd h (by simp)⟩
  conv => whnf
  refine ⟨m4, trivial, ?_⟩
  conv => whnf
  repeat (first | exact trivial | (refine ⟨by first | exact ⟨rfl, rfl, rfl⟩ | rfl | exact ⟨rfl, rfl⟩ | exact ⟨rfl, fun _ _ => rfl⟩ | exact fun _ _ h => h | (intro _ _ h; cases h; done), ?_⟩; conv => whnf))
  intro _ _
  conv => whnf
  refine ⟨⟨emptyL, none, 0, none, 0, m4⟩, ⟨Cells.nil _ _, Cells.nil _ _, by decide⟩, ?_⟩
  conv => whnf
  repeat (first | exact trivial | (refine ⟨by first | exact ⟨rfl, rfl, rfl⟩ | rfl | exact ⟨rfl, rfl⟩ | exact ⟨rfl, fun _ _ => rfl⟩ | exact fun _ _ h => h | (intro _ _ h; cases h; done), ?_⟩; conv => whnf))
  intro _ _
  conv => whnf
  refine ⟨(), trivial, ?_⟩
  conv => whnf
  repeat (first | exact trivial | exact fun _ _ h => h | (refine ⟨by first | exact ⟨rfl, rfl, rfl⟩ | rfl | exact ⟨rfl, rfl⟩ | exact ⟨rfl, fun _ _ => rfl⟩ | exact fun _ _ h => h | (intro _ _ h; cases h; done) | simp, ?_⟩; conv => whnf))
  exact hall
end Go.Proofs.Ytjpjiniclibgkaa.Sx
