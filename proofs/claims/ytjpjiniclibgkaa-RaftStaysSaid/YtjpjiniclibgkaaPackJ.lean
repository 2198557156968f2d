/- The law RaftSteps, walked. Then: The law RaftSteps holds of the program for every input: Step of any node and message answers what the document says, and whether they can be. Condition: none. -/
import Derived.Test.YtjpjiniclibgkaaPackG
import Derived.Test.YtjpjiniclibgkaaPackH
import Derived.Test.YtjpjiniclibgkaaPackI
namespace Go.Proofs.Ytjpjiniclibgkaa.Sx
open Go

def S26 : List (Nat × Spec) := (10, wakesSpec) :: S25
theorem S26_all : ∀ f s, findS S26 f = some s → SpecOk Try.prog f s := CP_cons S25_all wakes_ok
theorem S26_ok : CPOk Try.prog (CPs S26) := CPs_ok S26_all
def lawStepsSpec : Spec where
  A := StepG
  R := fun ⟨n, A, c, k, D, e, m⟩ => (Cells m A (itemsV n.log.items) ∧ n.log.items.length ≤ c ∧ n.log.items.length < 2 ^ 62) ∧ (Cells m D (itemsV k.items) ∧ k.items.length ≤ e ∧ k.items.length < 2 ^ 62)
  J := fun ⟨_, _, _, _, _, _, m⟩ => m
  args := fun ⟨n, A, c, k, D, e, _⟩ => [.g (nodeC n (.sl A n.log.items.length c)), .g (msgC k (.sl D k.items.length e))]
  h := fun _ => []
  nx := 0
  Bb := Unit
  C := fun _ _ => True
  out := fun _ _ => .ret (.b true)
  h2 := fun _ _ => []
  nx2 := 0
theorem feed_len (n : Node) (to : Int) : (feedN n to).items.length ≤ 16 := by
  show (feedK n to).items.length ≤ 16
  unfold feedK
  split
  · exact Nat.zero_le _
  · show (List.take 16 _).length ≤ 16
    rw [List.length_take]; omega
theorem feedAll_len (n : Node) : ∀ k ∈ feedAllK n, k.items.length ≤ 16 := by
  intro k hk
  obtain ⟨i, _, rfl⟩ := List.mem_map.1 hk
  exact feed_len n i
theorem feedAll_cnt (n : Node) : (feedAllK n).length ≤ n.size.toNat := by
  unfold feedAllK; rw [List.length_map]; exact others_len n _
def Brief (r : HeardR) : Prop := ∀ a, r.k = some a → a.items = []
theorem brief_ask (n : Node) (k : Msg) : Brief (askR n k) := by rintro a h; cases h; rfl
theorem brief_lay (n : Node) (k : Msg) (a : Int) (xs : List Item) : Brief (layR n k a xs) := by
  intro b h
  unfold layR at h
  split at h <;> cases h
  rfl
theorem brief_append (n : Node) (k : Msg) : Brief (appendR n k) := by
  intro a h
  unfold appendR at h
  split at h
  · split at h
    · cases h
    · split at h
      · cases h; rfl
      · exact brief_lay _ _ _ _ a h
  · split at h
    · cases h; rfl
    · exact brief_lay _ _ _ _ a h
theorem brief_install (n : Node) (k : Msg) : Brief (installR n k) := by
  intro a h
  unfold installR at h
  split at h <;> cases h <;> rfl
structure Short (ks : List Msg) : Prop where
  l : ks.length ≤ 100
  i : ∀ j ∈ ks, j.items.length ≤ 16
theorem Short.nil : Short [] := ⟨Nat.zero_le _, fun _ h => by cases h⟩
theorem Short.one {k : Msg} (h : k.items.length ≤ 16) : Short [k] := ⟨by show 1 ≤ 100; omega, fun j hj => by obtain rfl := List.mem_singleton.1 hj; exact h⟩
theorem Short.feedAll {n : Node} (h : n.size ≤ 7) : Short (feedAllK n) := ⟨by have := feedAll_cnt n; omega, feedAll_len n⟩
theorem Short.heard {a : Node} {k : Msg} {r : HeardR} (h : Brief r) : Short (heardS a k r).ks := by
  show Short (repl1 a k r)
  unfold repl1
  cases hk : r.k with
  | none => exact Short.nil
  | some b =>
    refine Short.one ?_
    show b.items.length ≤ 16
    rw [h b hk]; exact Nat.zero_le _
theorem win_size (n : Node) : (winN n).size = n.size := by unfold winN; split <;> rfl
theorem Short.lead {n : Node} (h : n.size ≤ 7) : Short (leadS n).ks := by
  unfold leadS
  split
  · exact Short.feedAll (by rw [win_size]; exact h)
  · exact Short.nil
theorem heardK_short {n : Node} (k : Msg) (h : n.size ≤ 7) : Short (heardK n k).ks := by
  unfold heardK
  split
  · exact Short.heard (brief_ask n k)
  split
  · split
    · exact Short.lead h
    · exact Short.nil
  split
  · show Short (if gotY n k = true then _ else _)
    split
    · exact Short.one (feed_len _ _)
    · exact Short.nil
  · unfold leaderS
    split
    · exact Short.one (Nat.zero_le _)
    split
    · exact Short.nil
    split
    · exact Short.heard (brief_append _ _)
    · exact Short.heard (brief_install _ _)
/-- No answer is long. -/
theorem step_short (n : Node) (k : Msg) : Short (stepR n k).ks := by
  unfold stepR
  split
  · rename_i h
    have hf := fine_iff.1 h.1
    refine heardK_short k ?_
    have : (turnN n k).size = n.size := by unfold turnN; split <;> rfl
    rw [this]; exact hf.s2
  · exact Short.nil
theorem step_len (n : Node) (k : Msg) : (stepR n k).n.log.items.length < 2 ^ 62 := by
  by_cases h : goodB n = true ∧ soundB n k = true
  · exact Nat.lt_of_le_of_lt (step_onto (fine_iff.1 h.1) (heard_iff.1 h.2)).1.l (by decide)
  · unfold stepR; rw [if_neg h]; decide
set_option maxRecDepth 100000 in
set_option maxHeartbeats 1600000 in
theorem lawSteps_ok : SpecOk Try.prog 3 lawStepsSpec := by
  refine spec_of_exec (fn := Try.f3) (c := Try.f3.body.getD .skip) (d := 0) (lv := ([0, 1, 2, 3, 4, 5, 6, 7, 8, 9, 10, 12, 15])) (DP := DPx T1 (CPs S26) ([0, 1, 2, 3, 4, 5, 6, 7, 8, 9, 10, 12, 15])) T1_ok S26_ok (fun B => DPx_ok T1_ok ord S26_ok B) lawStepsSpec (by rfl) (by rfl) (by rfl) (fun _ => Nat.le_of_ble_eq_true (by kernel_rfl)) ?_
  rintro ⟨n, A, c, k, D, e, m⟩ ⟨⟨hM, hcap, hl⟩, ⟨hD, hde, hkl⟩⟩
  have hsh := step_short n k
  conv => whnf
  refine ⟨m, trivial, ?_⟩
  conv => whnf
  repeat (first | exact trivial | (refine ⟨by first | exact ⟨rfl, rfl, rfl⟩ | rfl | exact ⟨rfl, rfl⟩ | exact ⟨rfl, fun _ _ => rfl⟩ | exact fun _ _ h => h | (intro _ _ h; cases h; done), ?_⟩; conv => whnf))
  intro _ _
  conv => whnf
  refine ⟨fun h => (by cases h), fun _ => ?_⟩
  conv => whnf
  refine ⟨⟨n, A, c, k, D, e, m⟩, ⟨⟨hM, hl⟩, ⟨hD, hkl⟩⟩, ?_⟩
  conv => whnf
  repeat (first | exact trivial | (refine ⟨by first | exact ⟨rfl, rfl, rfl⟩ | rfl | exact ⟨rfl, rfl⟩ | exact ⟨rfl, fun _ _ => rfl⟩ | exact fun _ _ h => h | (intro _ _ h; cases h; done), ?_⟩; conv => whnf))
  intro hv _
  conv => whnf
  refine ⟨fun _ => ?_, fun _ => ?_⟩
  · refine ⟨(), trivial, ?_⟩
    conv => whnf
    repeat (first | exact trivial | exact fun _ _ h => h | (refine ⟨by first | exact ⟨rfl, rfl, rfl⟩ | rfl | exact ⟨rfl, rfl⟩ | exact ⟨rfl, fun _ _ => rfl⟩ | exact fun _ _ h => h | (intro _ _ h; cases h; done), ?_⟩; conv => whnf))
  conv => whnf
  refine ⟨⟨n, A, c, k, D, e, m⟩, ⟨⟨hM, hcap, hl⟩, ⟨hD, hde, hkl⟩⟩, ?_⟩
  conv => whnf
  repeat (first | exact trivial | (refine ⟨by first | exact ⟨rfl, rfl, rfl⟩ | rfl | exact ⟨rfl, rfl⟩ | exact ⟨rfl, fun _ _ => rfl⟩ | exact fun _ _ h => h | (intro _ _ h; cases h; done), ?_⟩; conv => whnf))
  rintro ⟨n1, A1, c1, os1, O1, oc1, m1⟩ ⟨hn1, hk1, ⟨hc1, hle1⟩, ⟨ho1, hoc1⟩, hs1, hx1⟩ m2 h02 h12
  conv => whnf
  refine ⟨⟨n, A, c, k, D, e, m2⟩, ⟨⟨hM.ext h02, hcap, hl⟩, ⟨hD.ext h02, hde, hkl⟩⟩, ?_⟩
  conv => whnf
  repeat (first | exact trivial | (refine ⟨by first | exact ⟨rfl, rfl, rfl⟩ | rfl | exact ⟨rfl, rfl⟩ | exact ⟨rfl, fun _ _ => rfl⟩ | exact fun _ _ h => h | (intro _ _ h; cases h; done), ?_⟩; conv => whnf))
  rintro ⟨n3, A3, c3, os3, O3, oc3, m3⟩ ⟨hn3, hk3, ⟨hc3, hle3⟩, ⟨ho3, hoc3⟩, hs3, hx3⟩ m4 h24 h34
  have hkm : os3.map (·.k) = os1.map (·.k) := hk3.trans hk1.symm
  have hnn : n3 = n1 := hn3.trans hn1.symm
  subst hnn
  have hshort : ∀ k ∈ os1.map (·.k), k.items.length < 2 ^ 62 := fun j hj => Nat.lt_of_le_of_lt (hsh.i j (hk1 ▸ hj)) (by decide)
  have hlen1 : (os1.map (·.k)).length < 2 ^ 62 := Nat.lt_of_le_of_lt (hk1 ▸ hsh.l) (by decide)
  conv => whnf
  refine Or.inr ⟨[0, 1], sc3_7, by kernel_rfl, ?_⟩
  conv => whnf
  refine ⟨⟨n3, A1, c1, A3, c3, m4⟩, ⟨(hc1.ext h12).ext h24, hc3.ext h34, by rw [show n3 = (stepR n k).n from hn3]; exact step_len n k⟩, ?_⟩
  conv => whnf
  repeat (first | exact trivial | (refine ⟨by first | exact ⟨rfl, rfl, rfl⟩ | rfl | exact ⟨rfl, rfl⟩ | exact ⟨rfl, fun _ _ => rfl⟩ | exact fun _ _ h => h | (intro _ _ h; cases h; done), ?_⟩; conv => whnf))
  intro _ _
  repeat (first | exact trivial | (refine ⟨by first | exact ⟨rfl, rfl, rfl⟩ | rfl | exact ⟨rfl, rfl⟩ | exact ⟨rfl, fun _ _ => rfl⟩ | exact fun _ _ h => h | (intro _ _ h; cases h; done), ?_⟩; conv => whnf))
  refine ⟨fun _ => ?_, fun h => (by cases h)⟩
  conv => whnf
  refine ⟨⟨os1.map (·.k), os1, O1, oc1, os3, O3, oc3, m4⟩, ⟨⟨rfl, hkm⟩, ⟨(ho1.ext h12).ext h24, (hs1.ext h12).ext h24⟩, ⟨ho3.ext h34, hs3.ext h34⟩, hlen1, hshort⟩, ?_⟩
  conv => whnf
  repeat (first | exact trivial | (refine ⟨by first | exact ⟨rfl, rfl, rfl⟩ | rfl | exact ⟨rfl, rfl⟩ | exact ⟨rfl, fun _ _ => rfl⟩ | exact fun _ _ h => h | (intro _ _ h; cases h; done), ?_⟩; conv => whnf))
  intro _ _
  repeat (first | exact trivial | (refine ⟨by first | exact ⟨rfl, rfl, rfl⟩ | rfl | exact ⟨rfl, rfl⟩ | exact ⟨rfl, fun _ _ => rfl⟩ | exact fun _ _ h => h | (intro _ _ h; cases h; done), ?_⟩; conv => whnf))
  refine ⟨fun _ => ?_, fun h => absurd h (by simp)⟩
  conv => whnf
  refine ⟨⟨n, A, c, m4⟩, ⟨(hM.ext h02).ext h24, hl⟩, ?_⟩
  conv => whnf
  repeat (first | exact trivial | (refine ⟨by first | exact ⟨rfl, rfl, rfl⟩ | rfl | exact ⟨rfl, rfl⟩ | exact ⟨rfl, fun _ _ => rfl⟩ | exact fun _ _ h => h | (intro _ _ h; cases h; done), ?_⟩; conv => whnf))
  intro _ _
  repeat (first | exact trivial | (refine ⟨by first | exact ⟨rfl, rfl, rfl⟩ | rfl | exact ⟨rfl, rfl⟩ | exact ⟨rfl, fun _ _ => rfl⟩ | exact fun _ _ h => h | (intro _ _ h; cases h; done), ?_⟩; conv => whnf))
  refine ⟨⟨n, A, c, m4⟩, ⟨(hM.ext h02).ext h24, hl⟩, ?_⟩
  conv => whnf
  repeat (first | exact trivial | (refine ⟨by first | exact ⟨rfl, rfl, rfl⟩ | rfl | exact ⟨rfl, rfl⟩ | exact ⟨rfl, fun _ _ => rfl⟩ | exact fun _ _ h => h | (intro _ _ h; cases h; done), ?_⟩; conv => whnf))
  intro _ _
  repeat (first | exact trivial | (refine ⟨by first | exact ⟨rfl, rfl, rfl⟩ | rfl | exact ⟨rfl, rfl⟩ | exact ⟨rfl, fun _ _ => rfl⟩ | exact fun _ _ h => h | (intro _ _ h; cases h; done), ?_⟩; conv => whnf))
  refine ⟨fun _ => ?_, fun h => absurd h (by simp)⟩
  conv => whnf
  refine ⟨⟨n, A, c, k, D, e, m4⟩, ⟨(hD.ext h02).ext h24, hkl⟩, ?_⟩
  conv => whnf
  repeat (first | exact trivial | (refine ⟨by first | exact ⟨rfl, rfl, rfl⟩ | rfl | exact ⟨rfl, rfl⟩ | exact ⟨rfl, fun _ _ => rfl⟩ | exact fun _ _ h => h | (intro _ _ h; cases h; done), ?_⟩; conv => whnf))
  intro _ _
  repeat (first | exact trivial | (refine ⟨by first | exact ⟨rfl, rfl, rfl⟩ | rfl | exact ⟨rfl, rfl⟩ | exact ⟨rfl, fun _ _ => rfl⟩ | exact fun _ _ h => h | (intro _ _ h; cases h; done), ?_⟩; conv => whnf))
  refine ⟨⟨n, A, c, k, D, e, m4⟩, ⟨(hD.ext h02).ext h24, hkl⟩, ?_⟩
  conv => whnf
  repeat (first | exact trivial | (refine ⟨by first | exact ⟨rfl, rfl, rfl⟩ | rfl | exact ⟨rfl, rfl⟩ | exact ⟨rfl, fun _ _ => rfl⟩ | exact fun _ _ h => h | (intro _ _ h; cases h; done), ?_⟩; conv => whnf))
  intro _ _
  repeat (first | exact trivial | (refine ⟨by first | exact ⟨rfl, rfl, rfl⟩ | rfl | exact ⟨rfl, rfl⟩ | exact ⟨rfl, fun _ _ => rfl⟩ | exact fun _ _ h => h | (intro _ _ h; cases h; done), ?_⟩; conv => whnf))
  refine ⟨(), trivial, ?_⟩
  conv => whnf
  repeat (first | exact trivial | exact fun _ _ h => h | (refine ⟨by first | exact ⟨rfl, rfl, rfl⟩ | rfl | exact ⟨rfl, rfl⟩ | exact ⟨rfl, fun _ _ => rfl⟩ | exact fun _ _ h => h | (intro _ _ h; cases h; done) | simp, ?_⟩; conv => whnf))
  exact ext_trans h02 h24
end Go.Proofs.Ytjpjiniclibgkaa.Sx

namespace Go.Proofs.Ytjpjiniclibgkaa.Steps
open Go Go.ChangeShapes Go.WideShapes Go.ChangeAt Go.RowKit Sx

theorem contract (H : Type) (enc : TypeId × Value → H) (W : World) (base : Nat) (args : Array Value) (ds gs : List (DataW H)) (before : List MemPlace)
    (hval : ∀ (j : Nat) t v, Try.f3.params[j]? = some t → args[j]? = some v → Value.okWide Try.prog W .any base t v)
    (hW : DataW.Whole enc Try.prog Try.f3.params.toList Rows.raftStepsSpec.vars false W args.toList ds gs before) (hw : (DataW.weightsEach Try.prog (Try.f3.params.toList ++ (OpenSpec.ofChange Rows.raftStepsSpec).bare.plain.varTypes Try.prog) (ds ++ gs)).all (· ≤ reachBytes) = true) :
    Calls Try.prog 3 args W fun e W' => ∃ v, e = .returned v ∧ Rows.raftStepsSpec.post enc Try.prog Try.f3 false true false false W args v W' := by
  have hW' := hW
  obtain ⟨p, q, hA0, hV, rfl, hfz, hnd⟩ := hW
  have hA : DataW.TrodAll enc Try.prog W 0 (fun _ => true) true Try.f3.params.toList args.toList ds p := hA0
  rw [Try.params3] at hA hval
  obtain ⟨v0, vs0, d0, ds0, p0, q0, hargs, rfl, rfl, h0, r0⟩ := trodAll_cons hA
  obtain ⟨v1, vs1, d1, ds1, p1, q1, rfl, rfl, rfl, h1, r1⟩ := trodAll_cons r0
  obtain ⟨rfl, rfl, rfl⟩ := trodAll_nil r1
  obtain rfl : args = #[v0, v1] := by cases args; simp_all
  rw [Try.params3] at hw
  simp only [List.cons_append, List.nil_append, DataW.weightsEach, List.all_append, Bool.and_eq_true] at hw
  obtain ⟨cs0, rfl⟩ := agg_of und27 (hval 0 27 v0 rfl rfl)
  obtain ⟨fu0, ht0⟩ := h0
  obtain ⟨n0, A0, c0, he0, hM0, hc0, hl0, hb0, hm0, hs0⟩ := open_node ht0 hw.1
  obtain ⟨cs1, rfl⟩ := agg_of und29 (hval 1 29 v1 rfl rfl)
  obtain ⟨fu1, ht1⟩ := h1
  obtain ⟨k1, A1, c1, he1, hM1, hc1, hl1⟩ := open_msg ht1 hw.2.1
  refine (law_calls lawSteps_ok ⟨n0, A0, c0, k1, A1, c1, allMem W⟩ ⟨⟨hM0, hc0, hl0⟩, ⟨hM1, hc1, hl1⟩⟩ (fun _ _ h => h) rfl (by have hz0 := arr_of (cs := cs0) he0; have hz1 := arr_of (cs := cs1) he1; rw [hz0, hz1]; rfl) fun _ => rfl).mono fun e W' ⟨he, hbl⟩ => ⟨_, he, ?_⟩
  exact law_post hbl laidOut (by rw [Try.params3]; intro t ht; simp only [List.mem_cons, List.not_mem_nil, or_false] at ht; rcases ht with rfl | rfl <;> exact ⟨by kernel_rfl, of_decide_eq_true (by kernel_rfl)⟩) (by kernel_rfl) und4 rfl
    (fun ds hd => by rw [Try.params3] at hd; match ds, hd with | [_, _], _ => rfl) hW'

theorem reads (os : Os) {H : Type} (enc : TypeId × Value → H) : ∃ places, DataW.whole enc Try.prog ((laidWorld os).forCall (fun _ _ => 0) ⟨#[], #[.agg #[.int .i64 0, .int .i64 0, .int .i64 0, .int .i64 0, .int .i64 0, .int .i64 0, .string ByteArray.empty, .slice none 0 0, .int .i64 0, .int .i64 0, .int .i64 0, .int .i64 0, .int .i64 0, .int .i64 0, .int .i64 0, .int .i64 0, .int .i64 0, .int .i64 0, .int .i64 0, .int .i64 0, .int .i64 0, .int .i64 0, .int .i64 0, .int .i64 0, .int .i64 0, .int .i64 0], .agg #[.int .i64 0, .int .i64 0, .int .i64 0, .int .i64 0, .int .i64 0, .int .i64 0, .int .i64 0, .bool false, .slice none 0 0, .string ByteArray.empty]], []⟩).memory Try.f3.params.toList Rows.raftStepsSpec.vars false (#[.agg #[.int .i64 0, .int .i64 0, .int .i64 0, .int .i64 0, .int .i64 0, .int .i64 0, .string ByteArray.empty, .slice none 0 0, .int .i64 0, .int .i64 0, .int .i64 0, .int .i64 0, .int .i64 0, .int .i64 0, .int .i64 0, .int .i64 0, .int .i64 0, .int .i64 0, .int .i64 0, .int .i64 0, .int .i64 0, .int .i64 0, .int .i64 0, .int .i64 0, .int .i64 0, .int .i64 0], .agg #[.int .i64 0, .int .i64 0, .int .i64 0, .int .i64 0, .int .i64 0, .int .i64 0, .int .i64 0, .bool false, .slice none 0 0, .string ByteArray.empty]] : Array Value).toList 8 = some ([.agg [.lit (.int .i64 0), .lit (.int .i64 0), .agg [.lit (.int .i64 0), .lit (.int .i64 0), .lit (.int .i64 0), .lit (.int .i64 0), .lit (.string []), .nil], .lit (.int .i64 0), .lit (.int .i64 0), .lit (.int .i64 0), .lit (.int .i64 0), .agg [.lit (.int .i64 0), .lit (.int .i64 0), .lit (.int .i64 0), .lit (.int .i64 0), .lit (.int .i64 0), .lit (.int .i64 0), .lit (.int .i64 0)], .agg [.lit (.int .i64 0), .lit (.int .i64 0), .lit (.int .i64 0), .lit (.int .i64 0), .lit (.int .i64 0), .lit (.int .i64 0), .lit (.int .i64 0)]], .agg [.lit (.int .i64 0), .lit (.int .i64 0), .lit (.int .i64 0), .lit (.int .i64 0), .lit (.int .i64 0), .lit (.int .i64 0), .lit (.int .i64 0), .lit (.bool false), .nil, .lit (.string [])]], [], places) :=
  ⟨[], by kernel_rfl⟩
set_option maxRecDepth 100000 in
theorem lifted (os : Os) (started : os.Started) (H : Type) (enc : TypeId × Value → H) (F : Stop.Interp) :
    ReturnsInHanded {} Try.checked os 3 .any ((OpenSpec.ofChange Rows.raftStepsSpec).preRow enc Try.prog Try.f3 Rows.raftStepsRow.domain false Rows.raftStepsRow.laid) (((OpenSpec.ofChange Rows.raftStepsSpec).at F).post enc Try.prog Try.f3 false true false false) := by
  obtain ⟨places, hx⟩ := reads os enc
  refine returnsInHanded_of_row (C := Try.checked) (s := OpenSpec.ofChange Rows.raftStepsSpec) own started (by kernel_rfl) Try.func3
    (witness_row_at (enc := enc) (C := Try.checked) false (laidWorld os) #[.agg #[.int .i64 0, .int .i64 0, .int .i64 0, .int .i64 0, .int .i64 0, .int .i64 0, .string ByteArray.empty, .slice none 0 0, .int .i64 0, .int .i64 0, .int .i64 0, .int .i64 0, .int .i64 0, .int .i64 0, .int .i64 0, .int .i64 0, .int .i64 0, .int .i64 0, .int .i64 0, .int .i64 0, .int .i64 0, .int .i64 0, .int .i64 0, .int .i64 0, .int .i64 0, .int .i64 0], .agg #[.int .i64 0, .int .i64 0, .int .i64 0, .int .i64 0, .int .i64 0, .int .i64 0, .int .i64 0, .bool false, .slice none 0 0, .string ByteArray.empty]] rfl (by kernel_rfl) (by kernel_rfl) (by kernel_rfl)
      (OpenSpec.preRow_of_cond 8 hx (by kernel_rfl) (fun k hk => by cases hk) (by kernel_rfl) (laid_none os _))) ?_
  intro W base args ds gs before hval hW _ _ hw hL _ _
  exact contract H enc W base args ds gs before hval hW hw
theorem said : Rows.RaftStepsSaid :=
  OpenClaim.holds_of_cond 3 Try.f3 rfl rfl rfl rfl rfl rfl rfl ⟨rfl, rfl, rfl, rfl, rfl⟩ rfl rfl rfl rfl rfl (by kernel_rfl) Try.func3 (by kernel_rfl)
    (of_decide_eq_true (by kernel_rfl)) (by unfold Func.isWrapper; first | (rw [if_pos (by decide +kernel)]; kernel_rfl) | (rw [if_neg (by decide +kernel)]; exact ⟨rfl, rfl⟩))
    (fun os started H enc _ F => by rw [OpenClaim.pre_eq_preRow]; exact lifted os started H enc F)
end Go.Proofs.Ytjpjiniclibgkaa.Steps
