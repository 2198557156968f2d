/- The law RaftTurns, walked. Then: The law RaftTurns holds of the program for every input: New, Timeout, Beat, Propose and Compact of any node, and GoodLog, Last and TermAt of its log, answer what the document says. Condition: none. -/
import Derived.Test.YtjpjiniclibgkaaPackJ
import Derived.Test.YtjpjiniclibgkaaPackH
import Derived.Test.YtjpjiniclibgkaaPackI
namespace Go.Proofs.Ytjpjiniclibgkaa.Sx
open Go

def S27 : List (Nat × Spec) := (23, turnSpec beatR) :: (25, turnSpec beatR) :: (27, propSpec) :: (29, propSpec) :: (30, compSpec) :: (31, compSpec) :: S26
theorem S27_all : ∀ f s, findS S27 f = some s → SpecOk Try.prog f s := CP_cons (CP_cons (CP_cons (CP_cons (CP_cons (CP_cons S26_all refCompact_ok) compact_ok) refPropose_ok) propose_ok) refBeat_ok) beat_ok
theorem S27_ok : CPOk Try.prog (CPs S27) := CPs_ok S27_all
theorem Short.append {a b : List Msg} (ha : a.length ≤ 50) (hi : ∀ j ∈ a, j.items.length ≤ 16) (hb : b.length ≤ 50) (hj : ∀ j ∈ b, j.items.length ≤ 16) : Short (a ++ b) :=
  ⟨by rw [List.length_append]; omega, fun j h => (List.mem_append.1 h).elim (hi j) (hj j)⟩
theorem asks_brief (n : Node) (a b : Int) (i : Nat) : ∀ j ∈ asksK n a b i, j.items.length ≤ 16 := by
  intro k hk
  obtain ⟨i, _, rfl⟩ := List.mem_map.1 hk
  exact Nat.zero_le _
theorem timeout_short (n : Node) : Short (timeoutR n).ks := by
  unfold timeoutR
  split
  · rename_i h
    have hf := fine_iff.1 h
    have hs := hf.s2
    split
    · exact Short.nil
    · have hl : Short (leadS (candN n)).ks := Short.lead (n := candN n) hs
      have h1 := asks_len (candN n) (lastN n.log).1 (lastN n.log).2 n.size.toNat
      have h2 : (leadS (candN n)).ks.length ≤ 50 := by
        unfold leadS
        split
        · have := feedAll_cnt (winN (candN n)); rw [win_size] at this; have h3 : (candN n).size = n.size := rfl; rw [h3] at this; show (feedAllK _).length ≤ 50; omega
        · exact Nat.zero_le _
      exact Short.append (by show (asksK _ _ _ _).length ≤ 50; omega) (asks_brief _ _ _ _) h2 hl.i
  · exact Short.nil
theorem beat_short (n : Node) : Short (beatR n).ks := by
  unfold beatR
  split
  · rename_i h
    split
    · exact Short.feedAll (fine_iff.1 h).s2
    · exact Short.nil
  · exact Short.nil
theorem propose_short (n : Node) (e : Entry) : Short (proposeR n e).ks := by
  unfold proposeR
  split
  · rename_i h
    split
    · split
      · exact Short.feedAll (n := putN n e) (fine_iff.1 h.1).s2
      · exact Short.nil
    · exact Short.nil
  · exact Short.nil
def bB : ByteArray := ⟨#[98]⟩
structure TurnsG where
  n : Node
  A : Option Addr
  c : Nat
  e : Entry
  i : Int
  m : Mem
def lawTurnsSpec : Spec where
  A := TurnsG
  R := fun ⟨n, A, c, _, i, m⟩ => Cells m A (itemsV n.log.items) ∧ n.log.items.length ≤ c ∧ n.log.items.length < 2 ^ 62 ∧ fits n.log.base ∧ fits n.me ∧ fits n.size ∧ fits i
  J := fun ⟨_, _, _, _, _, m⟩ => m
  args := fun ⟨n, A, c, e, i, _⟩ => [.g (nodeC n (.sl A n.log.items.length c)), .g (entryC e), .i .i64 i]
  h := fun _ => []
  nx := 0
  Bb := Unit
  C := fun _ _ => True
  out := fun _ _ => .ret (.b true)
  h2 := fun _ _ => []
  nx2 := 0
theorem timeout_len (n : Node) : (timeoutR n).n.log.items.length < 2 ^ 62 := by
  by_cases h : goodB n = true
  · exact Nat.lt_of_le_of_lt (timeout_onto (fine_iff.1 h)).1.l (by decide)
  · unfold timeoutR; rw [if_neg h]; decide
theorem beat_len (n : Node) : (beatR n).n.log.items.length < 2 ^ 62 := by
  by_cases h : goodB n = true
  · rw [(beat_onto (fine_iff.1 h)).1]; exact Nat.lt_of_le_of_lt (fine_iff.1 h).l (by decide)
  · unfold beatR; rw [if_neg h]; decide
theorem propose_len (n : Node) (e : Entry) : (proposeR n e).n.log.items.length < 2 ^ 62 := by
  by_cases h : (proposeR n e).e = 0
  · by_cases hg : goodB n = true
    · exact Nat.lt_of_le_of_lt (propose_onto (fine_iff.1 hg) h).1.l (by decide)
    · unfold proposeR at h
      rw [if_neg (fun x => hg x.1)] at h; cases h
  · unfold proposeR at h ⊢
    split
    · rename_i h1
      rw [if_pos h1] at h
      split
      · rename_i h2
        rw [if_pos h2] at h
        split
        · rename_i h3
          rw [if_pos h3] at h
          exact absurd rfl h
        · decide
      · decide
    · decide
theorem compact_len (n : Node) (i : Int) (b : ByteArray) : (compactR n i b).n.log.items.length < 2 ^ 62 := by
  unfold compactR
  split
  · rename_i h
    have := (fine_iff.1 h.1).l
    show (n.log.items.drop _).length < _
    rw [List.length_drop]; omega
  · decide
theorem new_len {me size : Int} {l : Log} (h : l.items.length < 2 ^ 62) : (newR me size l).n.log.items.length < 2 ^ 62 := by
  unfold newR
  split
  · exact h
  · decide
set_option maxRecDepth 100000 in
set_option maxHeartbeats 3200000 in
theorem lawTurns_ok : SpecOk Try.prog 7 lawTurnsSpec := by
  refine spec_of_exec (fn := Try.f7) (c := Try.f7.body.getD .skip) (d := 0) (lv := ([0, 1, 2, 3, 4, 6, 7, 8, 9, 10, 11, 12, 13, 14, 15, 16, 17, 18, 19, 20, 21, 22, 24, 33, 60, 87, 123, 144, 186, 209])) (DP := DPx T1 (CPs S27) ([0, 1, 2, 3, 4, 6, 7, 8, 9, 10, 11, 12, 13, 14, 15, 16, 17, 18, 19, 20, 21, 22, 24, 33, 60, 87, 123, 144, 186, 209])) T1_ok S27_ok (fun B => DPx_ok T1_ok ord S27_ok B) lawTurnsSpec (by rfl) (by rfl) (by rfl) (fun _ => Nat.le_of_ble_eq_true (by kernel_rfl)) ?_
  rintro ⟨n, A, c, e, i, m⟩ ⟨hM, hcap, hl, hfb, hfm, hfs, hfi⟩
  have hT := timeout_short n
  have hB := beat_short n
  have hP := propose_short n e
  conv => whnf
  refine ⟨m, trivial, ?_⟩
  conv => whnf
  repeat (first | exact trivial | (refine ⟨by first | exact ⟨rfl, rfl, rfl⟩ | rfl | exact ⟨rfl, rfl⟩ | exact ⟨rfl, fun _ _ => rfl⟩ | exact fun _ _ h => h | (intro _ _ h; cases h; done), ?_⟩; conv => whnf))
  intro _ _
  conv => whnf
  refine ⟨fun h => (by cases h), fun _ => ?_⟩
  conv => whnf
  refine ⟨⟨n, A, c, zeroM, none, 0, m⟩, ⟨⟨hM, hl⟩, ⟨Cells.nil _ _, by decide⟩⟩, ?_⟩
  conv => whnf
  repeat (first | exact trivial | (refine ⟨by first | exact ⟨rfl, rfl, rfl⟩ | rfl | exact ⟨rfl, rfl⟩ | exact ⟨rfl, fun _ _ => rfl⟩ | exact fun _ _ h => h | (intro _ _ h; cases h; done), ?_⟩; conv => whnf))
  intro hv hhv
  conv => whnf
  refine ⟨fun _ => ?_, fun _ => ?_⟩
  · refine ⟨(), trivial, ?_⟩
    conv => whnf
    repeat (first | exact trivial | exact fun _ _ h => h | (refine ⟨by first | exact ⟨rfl, rfl, rfl⟩ | rfl | exact ⟨rfl, rfl⟩ | exact ⟨rfl, fun _ _ => rfl⟩ | exact fun _ _ h => h | (intro _ _ h; cases h; done), ?_⟩; conv => whnf))
  conv => whnf
  have hall : ∀ b o, m b = some o → m b = some o := fun _ _ h => h
  refine ⟨⟨n, A, c, m⟩, ⟨hM, hcap, hl⟩, ?_⟩
  conv => whnf
  repeat (first | exact trivial | (refine ⟨by first | exact ⟨rfl, rfl, rfl⟩ | rfl | exact ⟨rfl, rfl⟩ | exact ⟨rfl, fun _ _ => rfl⟩ | exact fun _ _ h => h | (intro _ _ h; cases h; done), ?_⟩; conv => whnf))
  rintro ⟨n1, A1, c1, os1, O1, oc1, m1⟩ ⟨hn1, hk1, ⟨hc1, hle1⟩, ⟨ho1, hoc1⟩, hs1, hx1⟩ m2 h02 h12
  have hM := hM.ext h02
  conv => whnf
  refine ⟨⟨n, A, c, m2⟩, ⟨hM, hcap, hl⟩, ?_⟩
  conv => whnf
  repeat (first | exact trivial | (refine ⟨by first | exact ⟨rfl, rfl, rfl⟩ | rfl | exact ⟨rfl, rfl⟩ | exact ⟨rfl, fun _ _ => rfl⟩ | exact fun _ _ h => h | (intro _ _ h; cases h; done), ?_⟩; conv => whnf))
  rintro ⟨n3, A3, c3, os3, O3, oc3, m3⟩ ⟨hn3, hk3, ⟨hc3, hle3⟩, ⟨ho3, hoc3⟩, hs3, hx3⟩ m4 h24 h34
  have hM := hM.ext h24
  have hall := ext_trans hall (ext_trans h02 h24)
  have hn1 : n1 = (timeoutR n).n := hn1
  have hn3 : n3 = (timeoutR n).n := hn3
  have hk1 : os1.map (·.k) = (timeoutR n).ks := hk1
  have hk3 : os3.map (·.k) = (timeoutR n).ks := hk3
  have hnn : n3 = n1 := hn3.trans hn1.symm
  subst hnn
  have hkm : os3.map (·.k) = os1.map (·.k) := hk3.trans hk1.symm
  have hshort : ∀ k ∈ os1.map (·.k), k.items.length < 2 ^ 62 := fun j hj => Nat.lt_of_le_of_lt ((hT).i j (hk1 ▸ hj)) (by decide)
  have hlen1 : (os1.map (·.k)).length < 2 ^ 62 := Nat.lt_of_le_of_lt (hk1 ▸ (hT).l) (by decide)
  have hnl : n3.log.items.length < 2 ^ 62 := by rw [hn1]; exact timeout_len n
  conv => whnf
  refine ⟨⟨n3, A1, c1, A3, c3, m4⟩, ⟨(hc1.ext h12).ext h24, hc3.ext h34, hnl⟩, ?_⟩
  conv => whnf
  repeat (first | exact trivial | (refine ⟨by first | exact ⟨rfl, rfl, rfl⟩ | rfl | exact ⟨rfl, rfl⟩ | exact ⟨rfl, fun _ _ => rfl⟩ | exact fun _ _ h => h | (intro _ _ h; cases h; done), ?_⟩; conv => whnf))
  intro _ _
  conv => whnf
  refine ⟨fun h => absurd h (by simp), fun _ => ?_⟩
  conv => whnf
  refine ⟨⟨os1.map (·.k), os1, O1, oc1, os3, O3, oc3, m4⟩, ⟨⟨rfl, hkm⟩, ⟨(ho1.ext h12).ext h24, (hs1.ext h12).ext h24⟩, ⟨ho3.ext h34, hs3.ext h34⟩, hlen1, hshort⟩, ?_⟩
  conv => whnf
  repeat (first | exact trivial | (refine ⟨by first | exact ⟨rfl, rfl, rfl⟩ | rfl | exact ⟨rfl, rfl⟩ | exact ⟨rfl, fun _ _ => rfl⟩ | exact fun _ _ h => h | (intro _ _ h; cases h; done), ?_⟩; conv => whnf))
  intro _ _
  conv => whnf
  refine ⟨fun h => absurd h (by simp), fun _ => ?_⟩
  conv => whnf
  refine ⟨⟨n, A, c, m4⟩, ⟨hM, hcap, hl⟩, ?_⟩
  conv => whnf
  repeat (first | exact trivial | (refine ⟨by first | exact ⟨rfl, rfl, rfl⟩ | rfl | exact ⟨rfl, rfl⟩ | exact ⟨rfl, fun _ _ => rfl⟩ | exact fun _ _ h => h | (intro _ _ h; cases h; done), ?_⟩; conv => whnf))
  rintro ⟨n1, A1, c1, os1, O1, oc1, m1⟩ ⟨hn1, hk1, ⟨hc1, hle1⟩, ⟨ho1, hoc1⟩, hs1, hx1⟩ m2 h02 h12
  have hM := hM.ext h02
  conv => whnf
  refine ⟨⟨n, A, c, m2⟩, ⟨hM, hcap, hl⟩, ?_⟩
  conv => whnf
  repeat (first | exact trivial | (refine ⟨by first | exact ⟨rfl, rfl, rfl⟩ | rfl | exact ⟨rfl, rfl⟩ | exact ⟨rfl, fun _ _ => rfl⟩ | exact fun _ _ h => h | (intro _ _ h; cases h; done), ?_⟩; conv => whnf))
  rintro ⟨n3, A3, c3, os3, O3, oc3, m3⟩ ⟨hn3, hk3, ⟨hc3, hle3⟩, ⟨ho3, hoc3⟩, hs3, hx3⟩ m4 h24 h34
  have hM := hM.ext h24
  have hall := ext_trans hall (ext_trans h02 h24)
  have hn1 : n1 = (beatR n).n := hn1
  have hn3 : n3 = (beatR n).n := hn3
  have hk1 : os1.map (·.k) = (beatR n).ks := hk1
  have hk3 : os3.map (·.k) = (beatR n).ks := hk3
  have hnn : n3 = n1 := hn3.trans hn1.symm
  subst hnn
  have hkm : os3.map (·.k) = os1.map (·.k) := hk3.trans hk1.symm
  have hshort : ∀ k ∈ os1.map (·.k), k.items.length < 2 ^ 62 := fun j hj => Nat.lt_of_le_of_lt ((hB).i j (hk1 ▸ hj)) (by decide)
  have hlen1 : (os1.map (·.k)).length < 2 ^ 62 := Nat.lt_of_le_of_lt (hk1 ▸ (hB).l) (by decide)
  have hnl : n3.log.items.length < 2 ^ 62 := by rw [hn1]; exact beat_len n
  conv => whnf
  refine ⟨⟨n3, A1, c1, A3, c3, m4⟩, ⟨(hc1.ext h12).ext h24, hc3.ext h34, hnl⟩, ?_⟩
  conv => whnf
  repeat (first | exact trivial | (refine ⟨by first | exact ⟨rfl, rfl, rfl⟩ | rfl | exact ⟨rfl, rfl⟩ | exact ⟨rfl, fun _ _ => rfl⟩ | exact fun _ _ h => h | (intro _ _ h; cases h; done), ?_⟩; conv => whnf))
  intro _ _
  conv => whnf
  refine ⟨fun h => absurd h (by simp), fun _ => ?_⟩
  conv => whnf
  refine ⟨⟨os1.map (·.k), os1, O1, oc1, os3, O3, oc3, m4⟩, ⟨⟨rfl, hkm⟩, ⟨(ho1.ext h12).ext h24, (hs1.ext h12).ext h24⟩, ⟨ho3.ext h34, hs3.ext h34⟩, hlen1, hshort⟩, ?_⟩
  conv => whnf
  repeat (first | exact trivial | (refine ⟨by first | exact ⟨rfl, rfl, rfl⟩ | rfl | exact ⟨rfl, rfl⟩ | exact ⟨rfl, fun _ _ => rfl⟩ | exact fun _ _ h => h | (intro _ _ h; cases h; done), ?_⟩; conv => whnf))
  intro _ _
  conv => whnf
  refine ⟨fun h => absurd h (by simp), fun _ => ?_⟩
  conv => whnf
  refine ⟨⟨n, A, c, e, m4⟩, ⟨hM, hcap, hl⟩, ?_⟩
  conv => whnf
  repeat (first | exact trivial | (refine ⟨by first | exact ⟨rfl, rfl, rfl⟩ | rfl | exact ⟨rfl, rfl⟩ | exact ⟨rfl, fun _ _ => rfl⟩ | exact fun _ _ h => h | (intro _ _ h; cases h; done), ?_⟩; conv => whnf))
  rintro ⟨n1, A1, c1, os1, O1, oc1, m1⟩ ⟨hn1, hk1, ⟨hc1, hle1⟩, ⟨ho1, hoc1⟩, hs1, hx1⟩ m2 h02 h12
  have hM := hM.ext h02
  conv => whnf
  refine ⟨⟨n, A, c, e, m2⟩, ⟨hM, hcap, hl⟩, ?_⟩
  conv => whnf
  repeat (first | exact trivial | (refine ⟨by first | exact ⟨rfl, rfl, rfl⟩ | rfl | exact ⟨rfl, rfl⟩ | exact ⟨rfl, fun _ _ => rfl⟩ | exact fun _ _ h => h | (intro _ _ h; cases h; done), ?_⟩; conv => whnf))
  rintro ⟨n3, A3, c3, os3, O3, oc3, m3⟩ ⟨hn3, hk3, ⟨hc3, hle3⟩, ⟨ho3, hoc3⟩, hs3, hx3⟩ m4 h24 h34
  have hM := hM.ext h24
  have hall := ext_trans hall (ext_trans h02 h24)
  have hn1 : n1 = (proposeR n e).n := hn1
  have hn3 : n3 = (proposeR n e).n := hn3
  have hk1 : os1.map (·.k) = (proposeR n e).ks := hk1
  have hk3 : os3.map (·.k) = (proposeR n e).ks := hk3
  have hnn : n3 = n1 := hn3.trans hn1.symm
  subst hnn
  have hkm : os3.map (·.k) = os1.map (·.k) := hk3.trans hk1.symm
  have hshort : ∀ k ∈ os1.map (·.k), k.items.length < 2 ^ 62 := fun j hj => Nat.lt_of_le_of_lt ((hP).i j (hk1 ▸ hj)) (by decide)
  have hlen1 : (os1.map (·.k)).length < 2 ^ 62 := Nat.lt_of_le_of_lt (hk1 ▸ (hP).l) (by decide)
  have hnl : n3.log.items.length < 2 ^ 62 := by rw [hn1]; exact propose_len n e
  conv => whnf
  refine ⟨⟨n3, A1, c1, A3, c3, m4⟩, ⟨(hc1.ext h12).ext h24, hc3.ext h34, hnl⟩, ?_⟩
  conv => whnf
  repeat (first | exact trivial | (refine ⟨by first | exact ⟨rfl, rfl, rfl⟩ | rfl | exact ⟨rfl, rfl⟩ | exact ⟨rfl, fun _ _ => rfl⟩ | exact fun _ _ h => h | (intro _ _ h; cases h; done), ?_⟩; conv => whnf))
  intro _ _
  conv => whnf
  refine ⟨fun h => absurd h (by simp), fun _ => ?_⟩
  conv => whnf
  refine ⟨⟨os1.map (·.k), os1, O1, oc1, os3, O3, oc3, m4⟩, ⟨⟨rfl, hkm⟩, ⟨(ho1.ext h12).ext h24, (hs1.ext h12).ext h24⟩, ⟨ho3.ext h34, hs3.ext h34⟩, hlen1, hshort⟩, ?_⟩
  conv => whnf
  repeat (first | exact trivial | (refine ⟨by first | exact ⟨rfl, rfl, rfl⟩ | rfl | exact ⟨rfl, rfl⟩ | exact ⟨rfl, fun _ _ => rfl⟩ | exact fun _ _ h => h | (intro _ _ h; cases h; done), ?_⟩; conv => whnf))
  intro _ _
  conv => whnf
  refine ⟨fun h => absurd h (by simp), fun _ => ?_⟩
  conv => whnf
  refine ⟨⟨n, A, c, i, bB, m4⟩, ⟨hM, hcap, hl⟩, ?_⟩
  conv => whnf
  repeat (first | exact trivial | (refine ⟨by first | exact ⟨rfl, rfl, rfl⟩ | rfl | exact ⟨rfl, rfl⟩ | exact ⟨rfl, fun _ _ => rfl⟩ | exact fun _ _ h => h | (intro _ _ h; cases h; done), ?_⟩; conv => whnf))
  rintro ⟨n1, A1, c1, m1⟩ ⟨hn1, ⟨hc1, hle1⟩, hx1⟩ m2 h02 h12
  have hM := hM.ext h02
  conv => whnf
  refine ⟨⟨n, A, c, i, bB, m2⟩, ⟨hM, hcap, hl⟩, ?_⟩
  conv => whnf
  repeat (first | exact trivial | (refine ⟨by first | exact ⟨rfl, rfl, rfl⟩ | rfl | exact ⟨rfl, rfl⟩ | exact ⟨rfl, fun _ _ => rfl⟩ | exact fun _ _ h => h | (intro _ _ h; cases h; done), ?_⟩; conv => whnf))
  rintro ⟨n3, A3, c3, m3⟩ ⟨hn3, ⟨hc3, hle3⟩, hx3⟩ m4 h24 h34
  have hM := hM.ext h24
  have hall := ext_trans hall (ext_trans h02 h24)
  have hn1 : n1 = (compactR n i bB).n := hn1
  have hn3 : n3 = (compactR n i bB).n := hn3
  have hnn : n3 = n1 := hn3.trans hn1.symm
  subst hnn
  have hnl : n3.log.items.length < 2 ^ 62 := by rw [hn1]; exact compact_len n i bB
  conv => whnf
  skip
  refine ⟨⟨n3, A1, c1, A3, c3, m4⟩, ⟨(hc1.ext h12).ext h24, hc3.ext h34, hnl⟩, ?_⟩
  conv => whnf
  repeat (first | exact trivial | (refine ⟨by first | exact ⟨rfl, rfl, rfl⟩ | rfl | exact ⟨rfl, rfl⟩ | exact ⟨rfl, fun _ _ => rfl⟩ | exact fun _ _ h => h | (intro _ _ h; cases h; done), ?_⟩; conv => whnf))
  intro _ _
  conv => whnf
  refine ⟨fun h => absurd h (by simp), fun _ => ?_⟩
  conv => whnf
  refine ⟨⟨n.me, n.size, n.log, A, c, m4⟩, ⟨hM, hl⟩, ?_⟩
  conv => whnf
  repeat (first | exact trivial | (refine ⟨by first | exact ⟨rfl, rfl, rfl⟩ | rfl | exact ⟨rfl, rfl⟩ | exact ⟨rfl, fun _ _ => rfl⟩ | exact fun _ _ h => h | (intro _ _ h; cases h; done), ?_⟩; conv => whnf))
  rintro ⟨n1, A1, c1, m1⟩ ⟨hn1, ⟨hc1, hle1⟩, hx1⟩ m2 h02 h12
  have hM := hM.ext h02
  conv => whnf
  refine ⟨⟨n.me, n.size, n.log, A, c, m2⟩, ⟨hM, hl⟩, ?_⟩
  conv => whnf
  repeat (first | exact trivial | (refine ⟨by first | exact ⟨rfl, rfl, rfl⟩ | rfl | exact ⟨rfl, rfl⟩ | exact ⟨rfl, fun _ _ => rfl⟩ | exact fun _ _ h => h | (intro _ _ h; cases h; done), ?_⟩; conv => whnf))
  rintro ⟨n3, A3, c3, m3⟩ ⟨hn3, ⟨hc3, hle3⟩, hx3⟩ m4 h24 h34
  have hM := hM.ext h24
  have hall := ext_trans hall (ext_trans h02 h24)
  have hn1 : n1 = (newR n.me n.size n.log).n := hn1
  have hn3 : n3 = (newR n.me n.size n.log).n := hn3
  have hnn : n3 = n1 := hn3.trans hn1.symm
  subst hnn
  have hnl : n3.log.items.length < 2 ^ 62 := by rw [hn1]; exact new_len hl
  conv => whnf
  refine Or.inr ⟨[0], sc7_23, by kernel_rfl, ?_⟩; conv => whnf
  refine ⟨⟨n3, A1, c1, A3, c3, m4⟩, ⟨(hc1.ext h12).ext h24, hc3.ext h34, hnl⟩, ?_⟩
  conv => whnf
  repeat (first | exact trivial | (refine ⟨by first | exact ⟨rfl, rfl, rfl⟩ | rfl | exact ⟨rfl, rfl⟩ | exact ⟨rfl, fun _ _ => rfl⟩ | exact fun _ _ h => h | (intro _ _ h; cases h; done), ?_⟩; conv => whnf))
  intro _ _
  repeat (first | exact trivial | (refine ⟨by first | exact ⟨rfl, rfl, rfl⟩ | rfl | exact ⟨rfl, rfl⟩ | exact ⟨rfl, fun _ _ => rfl⟩ | exact fun _ _ h => h | (intro _ _ h; cases h; done), ?_⟩; conv => whnf))
  refine ⟨fun h => absurd h (by simp), fun _ => ?_⟩
  conv => whnf
  refine ⟨⟨n.log, n.size, A, c, m4⟩, ⟨hM, hl⟩, ?_⟩
  conv => whnf
  repeat (first | exact trivial | (refine ⟨by first | exact ⟨rfl, rfl, rfl⟩ | rfl | exact ⟨rfl, rfl⟩ | exact ⟨rfl, fun _ _ => rfl⟩ | exact fun _ _ h => h | (intro _ _ h; cases h; done), ?_⟩; conv => whnf))
  intro _ _
  repeat (first | exact trivial | (refine ⟨by first | exact ⟨rfl, rfl, rfl⟩ | rfl | exact ⟨rfl, rfl⟩ | exact ⟨rfl, fun _ _ => rfl⟩ | exact fun _ _ h => h | (intro _ _ h; cases h; done), ?_⟩; conv => whnf))
  refine ⟨⟨n.log, n.size, A, c, m4⟩, ⟨hM, hl⟩, ?_⟩
  conv => whnf
  repeat (first | exact trivial | (refine ⟨by first | exact ⟨rfl, rfl, rfl⟩ | rfl | exact ⟨rfl, rfl⟩ | exact ⟨rfl, fun _ _ => rfl⟩ | exact fun _ _ h => h | (intro _ _ h; cases h; done), ?_⟩; conv => whnf))
  intro _ _
  repeat (first | exact trivial | (refine ⟨by first | exact ⟨rfl, rfl, rfl⟩ | rfl | exact ⟨rfl, rfl⟩ | exact ⟨rfl, fun _ _ => rfl⟩ | exact fun _ _ h => h | (intro _ _ h; cases h; done), ?_⟩; conv => whnf))
  refine ⟨fun h => absurd h (by simp), fun _ => ?_⟩
  conv => whnf
  refine ⟨⟨n.log, A, c, m4⟩, ⟨hM, hl⟩, ?_⟩
  conv => whnf
  repeat (first | exact trivial | (refine ⟨by first | exact ⟨rfl, rfl, rfl⟩ | rfl | exact ⟨rfl, rfl⟩ | exact ⟨rfl, fun _ _ => rfl⟩ | exact fun _ _ h => h | (intro _ _ h; cases h; done), ?_⟩; conv => whnf))
  intro _ _
  conv => whnf
  refine ⟨⟨n.log, A, c, i, m4⟩, ⟨hM, hl, hfi, hfb⟩, ?_⟩
  conv => whnf
  repeat (first | exact trivial | (refine ⟨by first | exact ⟨rfl, rfl, rfl⟩ | rfl | exact ⟨rfl, rfl⟩ | exact ⟨rfl, fun _ _ => rfl⟩ | exact fun _ _ h => h | (intro _ _ h; cases h; done), ?_⟩; conv => whnf))
  intro _ _
  conv => whnf
  refine ⟨fun _ => ?_, fun _ => ?_⟩
  · refine ⟨(), trivial, ?_⟩
    conv => whnf
    repeat (first | exact trivial | exact fun _ _ h => h | (refine ⟨by first | exact ⟨rfl, rfl, rfl⟩ | rfl | exact ⟨rfl, rfl⟩ | exact ⟨rfl, fun _ _ => rfl⟩ | exact fun _ _ h => h | (intro _ _ h; cases h; done), ?_⟩; conv => whnf))
    exact hall
  conv => whnf
  refine ⟨⟨n.log, A, c, m4⟩, ⟨hM, hl⟩, ?_⟩
  conv => whnf
  repeat (first | exact trivial | (refine ⟨by first | exact ⟨rfl, rfl, rfl⟩ | rfl | exact ⟨rfl, rfl⟩ | exact ⟨rfl, fun _ _ => rfl⟩ | exact fun _ _ h => h | (intro _ _ h; cases h; done), ?_⟩; conv => whnf))
  intro _ _
  conv => whnf
  refine ⟨⟨n.log, A, c, i, m4⟩, ⟨hM, hl, hfi, hfb⟩, ?_⟩
  conv => whnf
  repeat (first | exact trivial | (refine ⟨by first | exact ⟨rfl, rfl, rfl⟩ | rfl | exact ⟨rfl, rfl⟩ | exact ⟨rfl, fun _ _ => rfl⟩ | exact fun _ _ h => h | (intro _ _ h; cases h; done), ?_⟩; conv => whnf))
  intro _ _
  conv => whnf
  refine ⟨fun _ => ?_, fun h => absurd h (by simp)⟩
  conv => whnf
  refine ⟨m4, trivial, ?_⟩
  conv => whnf
  repeat (first | exact trivial | (refine ⟨by first | exact ⟨rfl, rfl, rfl⟩ | rfl | exact ⟨rfl, rfl⟩ | exact ⟨rfl, fun _ _ => rfl⟩ | exact fun _ _ h => h | (intro _ _ h; cases h; done), ?_⟩; conv => whnf))
  intro _ _
  conv => whnf
  refine ⟨⟨emptyL, none, 0, none, 0, m4⟩, ⟨Cells.nil _ _, Cells.nil _ _, by decide⟩, ?_⟩
  conv => whnf
  repeat (first | exact trivial | (refine ⟨by first | exact ⟨rfl, rfl, rfl⟩ | rfl | exact ⟨rfl, rfl⟩ | exact ⟨rfl, fun _ _ => rfl⟩ | exact fun _ _ h => h | (intro _ _ h; cases h; done), ?_⟩; conv => whnf))
  intro _ _
  conv => whnf
  refine ⟨(), trivial, ?_⟩
  conv => whnf
  repeat (first | exact trivial | exact fun _ _ h => h | (refine ⟨by first | exact ⟨rfl, rfl, rfl⟩ | rfl | exact ⟨rfl, rfl⟩ | exact ⟨rfl, fun _ _ => rfl⟩ | exact fun _ _ h => h | (intro _ _ h; cases h; done) | simp, ?_⟩; conv => whnf))
  exact hall
end Go.Proofs.Ytjpjiniclibgkaa.Sx

namespace Go.Proofs.Ytjpjiniclibgkaa.Turns
open Go Go.ChangeShapes Go.WideShapes Go.ChangeAt Go.RowKit Sx

theorem contract (H : Type) (enc : TypeId × Value → H) (W : World) (base : Nat) (args : Array Value) (ds gs : List (DataW H)) (before : List MemPlace)
    (hval : ∀ (j : Nat) t v, Try.f7.params[j]? = some t → args[j]? = some v → Value.okWide Try.prog W .any base t v)
    (hW : DataW.Whole enc Try.prog Try.f7.params.toList Rows.raftTurnsSpec.vars false W args.toList ds gs before) (hw : (DataW.weightsEach Try.prog (Try.f7.params.toList ++ (OpenSpec.ofChange Rows.raftTurnsSpec).bare.plain.varTypes Try.prog) (ds ++ gs)).all (· ≤ reachBytes) = true) :
    Calls Try.prog 7 args W fun e W' => ∃ v, e = .returned v ∧ Rows.raftTurnsSpec.post enc Try.prog Try.f7 false true false false W args v W' := by
  have hW' := hW
  obtain ⟨p, q, hA0, hV, rfl, hfz, hnd⟩ := hW
  have hA : DataW.TrodAll enc Try.prog W 0 (fun _ => true) true Try.f7.params.toList args.toList ds p := hA0
  rw [Try.params7] at hA hval
  obtain ⟨v0, vs0, d0, ds0, p0, q0, hargs, rfl, rfl, h0, r0⟩ := trodAll_cons hA
  obtain ⟨v1, vs1, d1, ds1, p1, q1, rfl, rfl, rfl, h1, r1⟩ := trodAll_cons r0
  obtain ⟨v2, vs2, d2, ds2, p2, q2, rfl, rfl, rfl, h2, r2⟩ := trodAll_cons r1
  obtain ⟨rfl, rfl, rfl⟩ := trodAll_nil r2
  obtain rfl : args = #[v0, v1, v2] := by cases args; simp_all
  rw [Try.params7] at hw
  simp only [List.cons_append, List.nil_append, DataW.weightsEach, List.all_append, Bool.and_eq_true] at hw
  obtain ⟨cs0, rfl⟩ := agg_of und27 (hval 0 27 v0 rfl rfl)
  obtain ⟨fu0, ht0⟩ := h0
  obtain ⟨n0, A0, c0, he0, hM0, hc0, hl0, hb0, hm0, hs0⟩ := open_node ht0 hw.1
  obtain ⟨cs1, rfl⟩ := agg_of und42 (hval 1 42 v1 rfl rfl)
  obtain ⟨fu1, ht1⟩ := h1
  obtain ⟨e1, he1⟩ := open_entry ht1
  obtain ⟨i2, rfl, rfl, _, hwf2⟩ := open_int und3 (hval 2 3 v2 rfl rfl) h2
  have hf2 := wf_fits hwf2
  refine (law_calls lawTurns_ok ⟨n0, A0, c0, e1, i2, allMem W⟩ ⟨hM0, hc0, hl0, hb0, hm0, hs0, hf2⟩ (fun _ _ h => h) rfl (by have hz0 := arr_of (cs := cs0) he0; have hz1 := arr_of (cs := cs1) he1; rw [hz0, hz1]; rfl) fun _ => rfl).mono fun e W' ⟨he, hbl⟩ => ⟨_, he, ?_⟩
  exact law_post hbl laidOut (by rw [Try.params7]; intro t ht; simp only [List.mem_cons, List.not_mem_nil, or_false] at ht; rcases ht with rfl | rfl | rfl <;> exact ⟨by kernel_rfl, of_decide_eq_true (by kernel_rfl)⟩) (by kernel_rfl) und4 rfl
    (fun ds hd => by rw [Try.params7] at hd; match ds, hd with | [_, _, _], _ => rfl) hW'

theorem reads (os : Os) {H : Type} (enc : TypeId × Value → H) : ∃ places, DataW.whole enc Try.prog ((laidWorld os).forCall (fun _ _ => 0) ⟨#[], #[.agg #[.int .i64 0, .int .i64 0, .int .i64 0, .int .i64 0, .int .i64 0, .int .i64 0, .string ByteArray.empty, .slice none 0 0, .int .i64 0, .int .i64 0, .int .i64 0, .int .i64 0, .int .i64 0, .int .i64 0, .int .i64 0, .int .i64 0, .int .i64 0, .int .i64 0, .int .i64 0, .int .i64 0, .int .i64 0, .int .i64 0, .int .i64 0, .int .i64 0, .int .i64 0, .int .i64 0], .agg #[.int .i64 0, .int .i64 0, .int .i64 0, .int .i64 0, .string ByteArray.empty], .int .i64 0], []⟩).memory Try.f7.params.toList Rows.raftTurnsSpec.vars false (#[.agg #[.int .i64 0, .int .i64 0, .int .i64 0, .int .i64 0, .int .i64 0, .int .i64 0, .string ByteArray.empty, .slice none 0 0, .int .i64 0, .int .i64 0, .int .i64 0, .int .i64 0, .int .i64 0, .int .i64 0, .int .i64 0, .int .i64 0, .int .i64 0, .int .i64 0, .int .i64 0, .int .i64 0, .int .i64 0, .int .i64 0, .int .i64 0, .int .i64 0, .int .i64 0, .int .i64 0], .agg #[.int .i64 0, .int .i64 0, .int .i64 0, .int .i64 0, .string ByteArray.empty], .int .i64 0] : Array Value).toList 8 = some ([.agg [.lit (.int .i64 0), .lit (.int .i64 0), .agg [.lit (.int .i64 0), .lit (.int .i64 0), .lit (.int .i64 0), .lit (.int .i64 0), .lit (.string []), .nil], .lit (.int .i64 0), .lit (.int .i64 0), .lit (.int .i64 0), .lit (.int .i64 0), .agg [.lit (.int .i64 0), .lit (.int .i64 0), .lit (.int .i64 0), .lit (.int .i64 0), .lit (.int .i64 0), .lit (.int .i64 0), .lit (.int .i64 0)], .agg [.lit (.int .i64 0), .lit (.int .i64 0), .lit (.int .i64 0), .lit (.int .i64 0), .lit (.int .i64 0), .lit (.int .i64 0), .lit (.int .i64 0)]], .agg [.lit (.int .i64 0), .lit (.int .i64 0), .lit (.int .i64 0), .lit (.int .i64 0), .lit (.string [])], .lit (.int .i64 0)], [], places) :=
  ⟨[], by kernel_rfl⟩
set_option maxRecDepth 100000 in
theorem lifted (os : Os) (started : os.Started) (H : Type) (enc : TypeId × Value → H) (F : Stop.Interp) :
    ReturnsInHanded {} Try.checked os 7 .any ((OpenSpec.ofChange Rows.raftTurnsSpec).preRow enc Try.prog Try.f7 Rows.raftTurnsRow.domain false Rows.raftTurnsRow.laid) (((OpenSpec.ofChange Rows.raftTurnsSpec).at F).post enc Try.prog Try.f7 false true false false) := by
  obtain ⟨places, hx⟩ := reads os enc
  refine returnsInHanded_of_row (C := Try.checked) (s := OpenSpec.ofChange Rows.raftTurnsSpec) own started (by kernel_rfl) Try.func7
    (witness_row_at (enc := enc) (C := Try.checked) false (laidWorld os) #[.agg #[.int .i64 0, .int .i64 0, .int .i64 0, .int .i64 0, .int .i64 0, .int .i64 0, .string ByteArray.empty, .slice none 0 0, .int .i64 0, .int .i64 0, .int .i64 0, .int .i64 0, .int .i64 0, .int .i64 0, .int .i64 0, .int .i64 0, .int .i64 0, .int .i64 0, .int .i64 0, .int .i64 0, .int .i64 0, .int .i64 0, .int .i64 0, .int .i64 0, .int .i64 0, .int .i64 0], .agg #[.int .i64 0, .int .i64 0, .int .i64 0, .int .i64 0, .string ByteArray.empty], .int .i64 0] rfl (by kernel_rfl) (by kernel_rfl) (by kernel_rfl)
      (OpenSpec.preRow_of_cond 8 hx (by kernel_rfl) (fun k hk => by cases hk) (by kernel_rfl) (laid_none os _))) ?_
  intro W base args ds gs before hval hW _ _ hw hL _ _
  exact contract H enc W base args ds gs before hval hW hw
theorem said : Rows.RaftTurnsSaid :=
  OpenClaim.holds_of_cond 7 Try.f7 rfl rfl rfl rfl rfl rfl rfl ⟨rfl, rfl, rfl, rfl, rfl⟩ rfl rfl rfl rfl rfl (by kernel_rfl) Try.func7 (by kernel_rfl)
    (of_decide_eq_true (by kernel_rfl)) (by unfold Func.isWrapper; first | (rw [if_pos (by decide +kernel)]; kernel_rfl) | (rw [if_neg (by decide +kernel)]; exact ⟨rfl, rfl⟩))
    (fun os started H enc _ F => by rw [OpenClaim.pre_eq_preRow]; exact lifted os started H enc F)
end Go.Proofs.Ytjpjiniclibgkaa.Turns
