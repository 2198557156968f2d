/- Plain laws of the steps, third part: to whom what is said. Then: The law RaftStays, walked. The law RaftStays holds of the program for every input: a node that can be leads to one that can be; term and commit never fall; the vote goes from nobody to one node; a leader's entries stay. Condition: none. -/
import Derived.Test.YtjpjiniclibgkaaPackH
import Derived.Test.YtjpjiniclibgkaaPackK
import Derived.Test.YtjpjiniclibgkaaPackI
namespace Go.Proofs.Ytjpjiniclibgkaa.Sx
open Go

/-- Messages of a node to others, in its term. -/
def Talks (n : Node) (ks : List Msg) : Prop := ∀ j ∈ ks, j.frm = n.me ∧ j.to ≠ n.me ∧ 0 ≤ j.to ∧ j.to < n.size ∧ j.term = n.log.term
theorem Talks.nil (n : Node) : Talks n [] := fun _ h => by cases h
theorem Talks.append {n : Node} {a b : List Msg} (h : Talks n a) (g : Talks n b) : Talks n (a ++ b) := fun j hj => (List.mem_append.1 hj).elim (h j) (g j)
theorem talks_say {n a : Node} {to : Int} {m : Msg} (h1 : a.me = n.me) (h2 : a.log.term = n.log.term) (h3 : to ≠ n.me) (h4 : 0 ≤ to) (h5 : to < n.size) : Talks n [sayN a to m] := by
  intro j hj
  obtain rfl := List.mem_singleton.1 hj
  exact ⟨h1, h3, h4, h5, h2⟩
theorem others_mem {n : Node} {i k : Nat} (h : k ∈ othersL n i) : k < i ∧ (k : Int) ≠ n.me := by
  unfold othersL at h
  obtain ⟨h1, h2⟩ := List.mem_filter.1 h
  exact ⟨List.mem_range.1 h1, by simpa using h2⟩
theorem talks_feedAll {n : Node} : Talks n (feedAllK n) := by
  intro j hj
  obtain ⟨i, hi, rfl⟩ := List.mem_map.1 hj
  obtain ⟨h1, h2⟩ := others_mem hi
  exact ⟨rfl, h2, Int.natCast_nonneg _, by show (i : Int) < n.size; omega, rfl⟩
theorem talks_asks {n : Node} {a b : Int} : Talks n (asksK n a b n.size.toNat) := by
  intro j hj
  obtain ⟨i, hi, rfl⟩ := List.mem_map.1 hj
  obtain ⟨h1, h2⟩ := others_mem hi
  exact ⟨rfl, h2, Int.natCast_nonneg _, by show (i : Int) < n.size; omega, rfl⟩
theorem talks_repl {n a : Node} {k : Msg} {r : HeardR} (h1 : a.me = n.me) (h2 : a.log.term = n.log.term) (h3 : k.frm ≠ n.me) (h4 : 0 ≤ k.frm) (h5 : k.frm < n.size) : Talks n (repl1 a k r) := by
  unfold repl1
  split
  · exact talks_say h1 h2 h3 h4 h5
  · exact Talks.nil n
theorem talks_lead (n : Node) : Talks (leadS n).n (leadS n).ks := by
  unfold leadS
  split
  · exact talks_feedAll
  · exact Talks.nil _
theorem got_keeps (n : Node) (k : Msg) : (gotN n k).me = n.me ∧ (gotN n k).size = n.size ∧ (gotN n k).log = n.log := by
  unfold gotN
  split
  · exact ⟨rfl, rfl, rfl⟩
  · split
    · exact ⟨rfl, rfl, rfl⟩
    · split <;> exact ⟨rfl, rfl, rfl⟩
theorem heardK_talks {n : Node} {k : Msg} (h : Fine n) (hk : Heard n k) (ht : k.term ≤ n.log.term) : Talks (heardK n k).n (heardK n k).ks := by
  unfold heardK
  split
  · show Talks (askN n k) (repl1 n k (askR n k))
    have hkeep : (askN n k).me = n.me ∧ (askN n k).size = n.size ∧ (askN n k).log.term = n.log.term := by unfold askN; split <;> exact ⟨rfl, rfl, rfl⟩
    exact talks_repl hkeep.1.symm hkeep.2.2.symm (by rw [hkeep.1]; exact hk.f3) hk.f1 (by rw [hkeep.2.1]; exact hk.f2)
  split
  · split
    · exact talks_lead _
    · exact Talks.nil _
  split
  · obtain ⟨h1, h2, h3⟩ := got_keeps n k
    show Talks (gotN n k) (if gotY n k = true then [feedN (gotN n k) k.frm] else [])
    split
    · exact talks_say rfl rfl (by rw [h1]; exact hk.f3) hk.f1 (by rw [h2]; exact hk.f2)
    · exact Talks.nil _
  · unfold leaderS
    split
    · exact talks_say rfl rfl hk.f3 hk.f1 hk.f2
    rename_i hlo
    split
    · exact Talks.nil _
    have hte : k.term = n.log.term := by omega
    have hff := follow_fine h hk hlo
    have hfs : (followN n k.term k.frm).log = n.log := follow_same (by omega)
    have hkf : Heard (followN n k.term k.frm) k := ⟨hk.to, hk.f1, hk.f2, hk.f3, hk.k1, hk.k2, hk.t1, hk.t2, hk.a1, hk.a2, hk.b1, hk.b2, hk.c1, hk.c2, hk.l, hk.up⟩
    have hft : k.term = (followN n k.term k.frm).log.term := by rw [hfs]; exact hte
    split
    · obtain ⟨_, hw, h3, _⟩ := append_fine hff hkf hft (follow_zero _ _ _)
      show Talks (appendR (followN n k.term k.frm) k).n (repl1 _ _ _)
      exact talks_repl hw.me.symm h3.symm (by rw [hw.me]; exact hk.f3) hk.f1 (by rw [hw.sz]; exact hk.f2)
    · obtain ⟨_, hw, h3, _⟩ := install_fine hff hkf hft (follow_zero _ _ _)
      show Talks (installR (followN n k.term k.frm) k).n (repl1 _ _ _)
      exact talks_repl hw.me.symm h3.symm (by rw [hw.me]; exact hk.f3) hk.f1 (by rw [hw.sz]; exact hk.f2)
/-- What a step's answers are addressed to. -/
theorem step_talk {n : Node} {k : Msg} (he : (stepR n k).e = 0) : ∀ j ∈ (stepR n k).ks, j.frm = n.me ∧ j.to ≠ n.me ∧ 0 ≤ j.to ∧ j.to < n.size ∧ j.term = (stepR n k).n.log.term := by
  by_cases hg : goodB n = true ∧ soundB n k = true
  · have hf := fine_iff.1 hg.1
    have hh := heard_iff.1 hg.2
    have hw := (step_onto hf hh).2.w
    have hr : stepR n k = heardK (turnN n k) k := by unfold stepR; rw [if_pos hg]
    have ht : Talks (stepR n k).n (stepR n k).ks := by
      rw [hr]; exact heardK_talks (turn_fine hf hh) (heard_turn rfl hh) turnN_term
    intro j hj
    have := ht j hj
    rw [hw.me, hw.sz] at this
    exact this
  · unfold stepR at he
    rw [if_neg hg] at he
    cases he
end Go.Proofs.Ytjpjiniclibgkaa.Sx

namespace Go.Proofs.Ytjpjiniclibgkaa.Sx
open Go

structure NP where
  n : Node
  A : Option Addr
  c : Nat
def npV (y : NP) : List Value := dens η0 (nodeC y.n (.sl y.A y.n.log.items.length y.c))
def npsV (ys : List NP) : List Value := ys.flatMap npV
theorem npV_len (y : NP) : (npV y).length = 26 := rfl
theorem npsV_len (ys : List NP) : (npsV ys).length = ys.length * 26 := by
  unfold npsV
  induction ys with
  | nil => rfl
  | cons x r ih => rw [List.flatMap_cons, List.length_append, npV_len, ih, List.length_cons]; omega
theorem npsV_drop (ys : List NP) : ∀ k, (npsV ys).drop (k * 26) = npsV (ys.drop k) := by
  induction ys with
  | nil => intro k; simp [npsV]
  | cons x r ih =>
    intro k
    cases k with
    | zero => simp [npsV]
    | succ k =>
      have h6 : (k + 1) * 26 = (npV x).length + k * 26 := by rw [npV_len]; omega
      show (npV x ++ npsV r).drop _ = npsV (r.drop k)
      rw [h6, List.drop_append, Nat.add_sub_cancel_left, ih k, List.drop_eq_nil_of_le (Nat.le_add_right _ _), List.nil_append]
theorem np_at {ys : List NP} {i : Nat} {y : NP} (h : ys[i]? = some y) : npV y = ((npsV ys).drop (i * 26)).take 26 := by
  have hd : ys.drop i = y :: ys.drop (i + 1) := by
    rw [List.drop_eq_getElem_cons (List.getElem?_eq_some_iff.1 h).1, (List.getElem?_eq_some_iff.1 h).2]
  rw [npsV_drop, hd]
  rfl
theorem np_le {ys : List NP} {i : Nat} {y : NP} (h : ys[i]? = some y) : i * 26 + 26 ≤ (npsV ys).length := by
  have := (List.getElem?_eq_some_iff.1 h).1
  rw [npsV_len]; omega
theorem getNP {xs : List NP} {i : Nat} (h : i < xs.length) : ∃ x, xs[i]? = some x := ⟨_, List.getElem?_eq_getElem h⟩
structure StaysG where
  n : Node
  A : Option Addr
  c : Nat
  k : Msg
  D : Option Addr
  e : Nat
  x : Entry
  m : Mem
def lawStaysSpec : Spec where
  A := StaysG
  R := fun ⟨n, A, c, k, D, e, _, m⟩ => (Cells m A (itemsV n.log.items) ∧ n.log.items.length ≤ c ∧ n.log.items.length < 2 ^ 62) ∧ (Cells m D (itemsV k.items) ∧ k.items.length ≤ e ∧ k.items.length < 2 ^ 62)
  J := fun ⟨_, _, _, _, _, _, _, m⟩ => m
  args := fun ⟨n, A, c, k, D, e, x, _⟩ => [.g (nodeC n (.sl A n.log.items.length c)), .g (msgC k (.sl D k.items.length e)), .g (entryC x)]
  h := fun _ => []
  nx := 0
  Bb := Unit
  C := fun _ _ => True
  out := fun _ _ => .ret (.b true)
  h2 := fun _ _ => []
  nx2 := 0
structure OkNP (n : Node) (m : Mem) (y : NP) : Prop where
  f : Fine y.n
  o : Onto n y.n
  c : Cells m y.A (itemsV y.n.log.items)
  l : y.n.log.items.length ≤ y.c
theorem all2 {p : NP → Prop} {a b : NP} (h1 : p a) (h2 : p b) : ∀ y ∈ [a, b], p y := fun y h => by
  simp only [List.mem_cons, List.not_mem_nil, or_false] at h
  rcases h with h | h <;> (rw [h]; assumption)
theorem all3 {p : NP → Prop} {a b c : NP} (h1 : p a) (h2 : p b) (h3 : p c) : ∀ y ∈ [a, b, c], p y := fun y h => by
  simp only [List.mem_cons, List.not_mem_nil, or_false] at h
  rcases h with h | h | h <;> (rw [h]; assumption)
theorem all4 {p : NP → Prop} {a b c d : NP} (h1 : p a) (h2 : p b) (h3 : p c) (h4 : p d) : ∀ y ∈ [a, b, c, d], p y := fun y h => by
  simp only [List.mem_cons, List.not_mem_nil, or_false] at h
  rcases h with h | h | h | h <;> (rw [h]; assumption)
theorem step_heard {n : Node} {k : Msg} (he : (stepR n k).e = 0) : Heard n k := by
  by_cases hg : goodB n = true ∧ soundB n k = true
  · exact heard_iff.1 hg.2
  · unfold stepR at he
    rw [if_neg hg] at he
    cases he
set_option maxRecDepth 100000 in
set_option maxHeartbeats 3200000 in
theorem lawStays_ok : SpecOk Try.prog 6 lawStaysSpec := by
  refine spec_of_exec (fn := Try.f6) (c := Try.f6.body.getD .skip) (d := 1) (lv := ([0, 1, 2, 3, 4, 5, 6, 7, 8, 10, 11, 13, 14, 17, 18, 20, 22, 24, 38, 64, 74, 87, 92, 93, 94, 95, 129, 131, 132, 133, 134, 178, 200, 238])) (DP := DPx T1 (CPs S27) ([0, 1, 2, 3, 4, 5, 6, 7, 8, 10, 11, 13, 14, 17, 18, 20, 22, 24, 38, 64, 74, 87, 92, 93, 94, 95, 129, 131, 132, 133, 134, 178, 200, 238])) T1_ok S27_ok (fun B => DPx_ok T1_ok ord S27_ok B) lawStaysSpec (by rfl) (by rfl) (by rfl) (fun _ => Nat.le_of_ble_eq_true (by kernel_rfl)) ?_
  rintro ⟨n, A, c, k, D, e, x, m⟩ ⟨⟨hM, hcap, hl⟩, ⟨hD, hde, hkl⟩⟩
  conv => whnf
  refine ⟨m, trivial, ?_⟩
  conv => whnf
  repeat (first | exact trivial | (refine ⟨by first | exact ⟨rfl, rfl, rfl⟩ | rfl | exact ⟨rfl, rfl⟩ | exact ⟨rfl, fun _ _ => rfl⟩ | exact fun _ _ h => h | (intro _ _ h; cases h; done), ?_⟩; conv => whnf))
  intro _ _
  conv => whnf
  refine ⟨fun h => (by cases h), fun _ => ?_⟩
  conv => whnf
  refine ⟨⟨n, A, c, k, D, e, m⟩, ⟨⟨hM, hl⟩, ⟨hD, hkl⟩⟩, ?_⟩
  conv => whnf
  repeat (first | exact trivial | (refine ⟨by first | exact ⟨rfl, rfl, rfl⟩ | rfl | exact ⟨rfl, rfl⟩ | exact ⟨rfl, fun _ _ => rfl⟩ | exact fun _ _ h => h | (intro _ _ h; cases h; done), ?_⟩; conv => whnf))
  intro hv hhv
  conv => whnf
  refine ⟨fun _ => ?_, fun _ => ?_⟩
  · refine ⟨fun _ => ?_, fun h => (by cases h)⟩
    conv => whnf
    refine ⟨(), trivial, ?_⟩
    conv => whnf
    repeat (first | exact trivial | exact fun _ _ h => h | (refine ⟨by first | exact ⟨rfl, rfl, rfl⟩ | rfl | exact ⟨rfl, rfl⟩ | exact ⟨rfl, fun _ _ => rfl⟩ | exact fun _ _ h => h | (intro _ _ h; cases h; done), ?_⟩; conv => whnf))
  conv => whnf
  refine ⟨⟨n, A, c, m⟩, ⟨hM, hl⟩, ?_⟩
  conv => whnf
  repeat (first | exact trivial | (refine ⟨by first | exact ⟨rfl, rfl, rfl⟩ | rfl | exact ⟨rfl, rfl⟩ | exact ⟨rfl, fun _ _ => rfl⟩ | exact fun _ _ h => h | (intro _ _ h; cases h; done), ?_⟩; conv => whnf))
  intro _ _
  conv => whnf
  refine ⟨fun hg => ?_, fun hg => ?_⟩
  · refine ⟨(), trivial, ?_⟩
    conv => whnf
    repeat (first | exact trivial | exact fun _ _ h => h | (refine ⟨by first | exact ⟨rfl, rfl, rfl⟩ | rfl | exact ⟨rfl, rfl⟩ | exact ⟨rfl, fun _ _ => rfl⟩ | exact fun _ _ h => h | (intro _ _ h; cases h; done), ?_⟩; conv => whnf))
  have hg : goodB n = true := by simpa using hg
  have hf := fine_iff.1 hg
  have hT := timeout_onto hf
  have hB := beat_onto hf
  have hall : ∀ b o, m b = some o → m b = some o := fun _ _ h => h
  conv => whnf
  refine ⟨⟨n, A, c, m⟩, ⟨hM, hcap, hl⟩, ?_⟩
  conv => whnf
  repeat (first | exact trivial | (refine ⟨by first | exact ⟨rfl, rfl, rfl⟩ | rfl | exact ⟨rfl, rfl⟩ | exact ⟨rfl, fun _ _ => rfl⟩ | exact fun _ _ h => h | (intro _ _ h; cases h; done), ?_⟩; conv => whnf))
  rintro ⟨n1, A1, c1, os1, O1, oc1, m1⟩ ⟨hn1, hk1, ⟨hc1, hle1⟩, ⟨ho1, hoc1⟩, hs1, hx1⟩ m2 h02 h12
  have hM := hM.ext h02
  have hn1 : n1 = (timeoutR n).n := hn1
  conv => whnf
  refine ⟨Nat.le_refl 1, ?_⟩
  conv => whnf
  conv => whnf
  refine ⟨⟨rfl, rfl, by decide, by decide⟩, ?_⟩
  conv => whnf
  refine ⟨⟨n, A, c, m2⟩, ⟨hM, hcap, hl⟩, ?_⟩
  conv => whnf
  repeat (first | exact trivial | (refine ⟨by first | exact ⟨rfl, rfl, rfl⟩ | rfl | exact ⟨rfl, rfl⟩ | exact ⟨rfl, fun _ _ => rfl⟩ | exact fun _ _ h => h | (intro _ _ h; cases h; done), ?_⟩; conv => whnf))
  rintro ⟨n3, A3, c3, os3, O3, oc3, m3⟩ ⟨hn3, hk3, ⟨hc3, hle3⟩, ⟨ho3, hoc3⟩, hs3, hx3⟩ m4 h24 h34
  have hM := hM.ext h24
  have hn3 : n3 = n := hn3.trans hB.1
  conv => whnf
  refine ⟨Nat.le_refl 1, ?_⟩
  conv => whnf
  refine ⟨⟨by decide, by decide, by decide⟩, ?_⟩
  conv => whnf
  refine ⟨fun h => absurd h (by simp [hT.2.2, hB.2]), fun _ => ?_⟩
  conv => whnf
  refine ⟨⟨n, A, c, x, m4⟩, ⟨hM, hcap, hl⟩, ?_⟩
  conv => whnf
  repeat (first | exact trivial | (refine ⟨by first | exact ⟨rfl, rfl, rfl⟩ | rfl | exact ⟨rfl, rfl⟩ | exact ⟨rfl, fun _ _ => rfl⟩ | exact fun _ _ h => h | (intro _ _ h; cases h; done), ?_⟩; conv => whnf))
  rintro ⟨n5, A5, c5, os5, O5, oc5, m5⟩ ⟨hn5, hk5, ⟨hc5, hle5⟩, ⟨ho5, hoc5⟩, hs5, hx5⟩ m6 h46 h56
  have hM := hM.ext h46
  conv => whnf
  have ok1 : ∀ m8, (∀ b o, m6 b = some o → m8 b = some o) → OkNP n m8 ⟨n1, A1, c1⟩ := fun m8 h => ⟨by rw [hn1]; exact hT.1, by rw [hn1]; exact hT.2.1, (((hc1.ext h12).ext h24).ext h46).ext h, hle1⟩
  have ok3 : ∀ m8, (∀ b o, m6 b = some o → m8 b = some o) → OkNP n m8 ⟨n3, A3, c3⟩ := fun m8 h => ⟨by rw [hn3]; exact hf, by rw [hn3]; exact Onto.refl n, ((hc3.ext h34).ext h46).ext h, hle3⟩
  have hn5 : n5 = (proposeR n x).n := hn5
  have ok5 : (proposeR n x).e = 0 → ∀ m8, (∀ b o, m6 b = some o → m8 b = some o) → OkNP n m8 ⟨n5, A5, c5⟩ := fun he m8 h => ⟨by rw [hn5]; exact (propose_onto hf he).1, by rw [hn5]; exact (propose_onto hf he).2, (hc5.ext h56).ext h, hle5⟩
  have hx6 := ext_trans (ext_trans h02 h24) h46
  refine ⟨fun he5 => ?_, fun he5 => ?_⟩
  · conv => whnf
    refine ⟨Nat.le_refl 1, ?_⟩
    conv => whnf
    refine ⟨⟨by decide, by decide, by decide⟩, ?_⟩
    conv => whnf
    have ok5 := ok5 (by simpa using he5)
    refine ⟨⟨n, A, c, k, D, e, m6⟩, ⟨⟨hM, hcap, hl⟩, ⟨((hD.ext h02).ext h24).ext h46, hde, hkl⟩⟩, ?_⟩
    conv => whnf
    repeat (first | exact trivial | (refine ⟨by first | exact ⟨rfl, rfl, rfl⟩ | rfl | exact ⟨rfl, rfl⟩ | exact ⟨rfl, fun _ _ => rfl⟩ | exact fun _ _ h => h | (intro _ _ h; cases h; done), ?_⟩; conv => whnf))
    rintro ⟨n7, A7, c7, os7, O7, oc7, m7⟩ ⟨hn7, hk7, ⟨hc7, hle7⟩, ⟨ho7, hoc7⟩, hs7, hx7⟩ m8 h68 h78
    have hM := hM.ext h68
    have hx8 := ext_trans hx6 h68
    have hn7 : n7 = (stepR n k).n := hn7
    have ok7 : (stepR n k).e = 0 → (∀ b o, m7 b = some o → m8 b = some o) → OkNP n m8 ⟨n7, A7, c7⟩ := fun he h => ⟨by rw [hn7]; exact (step_onto hf (step_heard he)).1, by rw [hn7]; exact (step_onto hf (step_heard he)).2, hc7.ext h, hle7⟩
    conv => whnf
    refine ⟨fun he7 => ?_, fun he7 => ?_⟩
    · conv => whnf
      refine ⟨Nat.le_refl 1, ?_⟩
      conv => whnf
      refine ⟨⟨by decide, by decide, by decide⟩, ?_⟩
      conv => whnf
      have he7 : (stepR n k).e = 0 := by simpa using he7
      have htalk := step_talk he7
      have hk7 : os7.map (·.k) = (stepR n k).ks := hk7
      rw [← hn7, ← hk7] at htalk
      have hom := ho7.ext h78
      obtain ⟨s, hs⟩ : ∃ s, s = os7.length := ⟨_, rfl⟩
      have hsl : s < 2 ^ 62 := by have := (step_short n k).l; rw [← hk7, List.length_map] at this; omega
      refine ⟨Nat, fun i => i ≤ s, fun i => ⟨240, [⟨3, [], .p 1 0⟩, ⟨17, [], .p 2 0⟩, ⟨7, [], .rw 3 4⟩, ⟨92, [], .sl O7 s oc7⟩, ⟨93, [], .i .i64 s⟩, ⟨94, [], .i .i64 i⟩], [], [(1, .st 27 (nodeC n (.sl A n.log.items.length c))), (2, .st 27 (nodeC n7 (.sl A7 n7.log.items.length c7))), (3, .row 27 26 4 (npsV [⟨n1, A1, c1⟩, ⟨n3, A3, c3⟩, ⟨n5, A5, c5⟩, ⟨n7, A7, c7⟩]))], 4⟩, fun _ => m8, fun i => s - i, ⟨0, rfl, Nat.zero_le _, ?_⟩, ?_⟩
      conv => whnf
      · conv => whnf
        repeat (first | exact trivial | (refine ⟨by first | exact ⟨rfl, rfl, rfl⟩ | rfl | exact ⟨rfl, rfl⟩ | exact ⟨rfl, fun _ _ => rfl⟩ | exact fun _ _ h => h | (intro _ _ h; cases h; done) | exact ⟨rfl, hs.symm, rfl⟩ | exact congrArg Int.ofNat hs.symm, ?_⟩; conv => whnf))
      · intro i hi
        refine ⟨fun hlt => ?_, fun hge => ?_⟩
        conv => whnf
        · have hlt : i < s := by have h2 : (i : Int) < (s : Int) := of_decide_eq_true hlt; omega
          have hE := getIm (xs := os7) (Nat.lt_of_lt_of_eq hlt hs)
          refine Exists.elim hE fun o ho => ?_
          have ht := htalk o.k (List.mem_map_of_mem (f := (·.k)) (List.mem_of_getElem? ho))
          refine ⟨⟨Int.natCast_nonneg _, by show (i : Int) < (s : Int); omega, hom.someM ho⟩, ?_⟩
          conv => whnf
          refine ⟨.g (msgC o.k (.sl o.A o.k.items.length o.c)), ⟨rfl, rfl, mem_msg hom ho⟩, ?_⟩
          conv => whnf
          have ht5 := Int.not_le.2 ht.2.2.2.1
          refine ⟨fun h => absurd h (by simp [ht.1, ht.2.1, ht.2.2.1, ht.2.2.2.2, ht5]), fun _ => ?_⟩
          conv => whnf
          refine ⟨i + 1, rfl, ⟨hlt, by show s - (i + 1) < s - i; omega⟩, ?_⟩
          conv => whnf
          repeat (first | exact trivial | (refine ⟨by first | exact ⟨rfl, rfl, rfl⟩ | rfl | exact ⟨rfl, rfl⟩ | exact ⟨rfl, fun _ _ => rfl⟩ | exact fun _ _ h => h | (intro _ _ h; cases h; done) | exact wrapi_succ (by omega), ?_⟩; conv => whnf))
        · have hys : ∀ y ∈ ([⟨n1, A1, c1⟩, ⟨n3, A3, c3⟩, ⟨n5, A5, c5⟩, ⟨n7, A7, c7⟩] : List NP), OkNP n m8 y := all4 (ok1 m8 h68) (ok3 m8 h68) (ok5 m8 h68) (ok7 he7 h78)
          obtain ⟨ys, hysd⟩ : ∃ ys : List NP, ys = [⟨n1, A1, c1⟩, ⟨n3, A3, c3⟩, ⟨n5, A5, c5⟩, ⟨n7, A7, c7⟩] := ⟨_, rfl⟩
          rw [← hysd] at hys
          have hyl : ys.length = 4 := by rw [hysd]; rfl
          refine ⟨Nat, fun i => i ≤ 4, fun i => ⟨240, [⟨3, [], .p 1 0⟩, ⟨131, [], .rw 2 4⟩, ⟨132, [], .i .i64 4⟩, ⟨133, [], .i .i64 i⟩], [], [(1, .st 27 (nodeC n (.sl A n.log.items.length c))), (2, .row 27 26 4 (npsV ys))], 3⟩, fun _ => m8, fun i => 4 - i, ⟨0, rfl, Nat.zero_le _, ?_⟩, ?_⟩
          conv => whnf
          · conv => whnf
            repeat (first | exact trivial | (refine ⟨by first | exact ⟨rfl, rfl, rfl⟩ | rfl | exact ⟨rfl, rfl⟩ | exact ⟨rfl, fun _ _ => rfl⟩ | exact fun _ _ h => h | (intro _ _ h; cases h; done) | (rw [hysd]; exact ⟨rfl, rfl⟩), ?_⟩; conv => whnf))
          · intro i hi
            refine ⟨fun hlt => ?_, fun hge => ?_⟩
            conv => whnf
            · have hlt : i < 4 := by have h2 : (i : Int) < (4 : Int) := of_decide_eq_true hlt; omega
              have hE := getNP (xs := ys) (Nat.lt_of_lt_of_eq hlt hyl.symm)
              refine Exists.elim hE fun y hy => ?_
              have hok := hys y (List.mem_of_getElem? hy)
              refine ⟨⟨Int.natCast_nonneg _, by show (i : Int) < (4 : Int); omega, by decide⟩, ?_⟩
              conv => whnf
              refine ⟨.g (nodeC y.n (.sl y.A y.n.log.items.length y.c)), ⟨rfl, rfl, rfl, np_le hy, np_at hy⟩, ?_⟩
              conv => whnf
              refine ⟨⟨y.n, y.A, y.c, m8⟩, ⟨hok.c, Nat.lt_of_le_of_lt hok.f.l (by decide)⟩, ?_⟩
              conv => whnf
              repeat (first | exact trivial | (refine ⟨by first | exact ⟨rfl, rfl, rfl⟩ | rfl | exact ⟨rfl, rfl⟩ | exact ⟨rfl, fun _ _ => rfl⟩ | exact fun _ _ h => h | (intro _ _ h; cases h; done), ?_⟩; conv => whnf))
              intro _ _
              have hgy := fine_iff.2 hok.f
              have hw := hok.o.w
              have hw1 := Int.not_lt.2 hw.t
              have hw2 := Int.not_lt.2 hw.c
              have hw3 := Int.not_lt.2 hw.b
              conv => whnf
              refine ⟨fun h => absurd h (by simp [hgy, hw.me, hw.sz, hw1, hw2, hw3]), fun _ => ?_⟩
              conv => whnf
              refine ⟨fun h => ?_, fun _ => ?_⟩
              · have hv := hok.o.v
                exfalso
                simp only [Bool.if_false_right, Bool.and_eq_true, decide_eq_true_eq, beq_iff_eq, bne_iff_ne] at h
                exact h.2 (hv h.1.1 h.1.2)
              conv => whnf
              have hlead : (if (n.role == 2) = true then y.n.log.term == n.log.term else false) = true → n.log.items.length ≤ y.n.log.items.length ∧ y.n.log.items.take n.log.items.length = n.log.items := fun h => by
                simp only [Bool.if_false_right, Bool.and_eq_true, decide_eq_true_eq, beq_iff_eq] at h
                obtain ⟨l, hl⟩ := hok.o.i h.1 h.2
                rw [hl]
                exact ⟨by rw [List.length_append]; omega, List.take_left' rfl⟩
              refine Or.inr ⟨[1,3], sc6_31, by kernel_rfl, ?_⟩
              conv => whnf
              refine ⟨fun h => ?_, ?_⟩
              · have h : ((decide ((y.n.log.items.length : Int) < (n.log.items.length : Int)) == false) && (((if (n.role == 2) = true then y.n.log.term == n.log.term else false) == true) && true)) = true := h
                rw [Bool.and_eq_true, Bool.and_eq_true, beq_iff_eq, beq_iff_eq] at h
                have h1 := (hlead h.2.1).1
                have h2 := hok.l
                exact ⟨Int.natCast_nonneg _, by omega⟩
              conv => whnf
              refine ⟨fun h12 => ?_, fun h12 => ?_⟩
              · obtain ⟨hle, hta⟩ := hlead h12
                have hnlt : decide ((y.n.log.items.length : Int) < (n.log.items.length : Int)) = false := decide_eq_false (by omega)
                have hcy : Cells m8 y.A (itemsV n.log.items) := by rw [← hta]; exact hok.c.takeI _
                conv => whnf
                refine ⟨fun h => absurd h (by rw [hnlt]; decide), fun _ => ?_⟩
                refine ⟨⟨n.log.items, y.A, y.c, A, c, m8⟩, ⟨hcy, hM, hl⟩, ?_⟩
                conv => whnf
                repeat (first | exact trivial | (refine ⟨by first | exact ⟨rfl, rfl, rfl⟩ | rfl | exact ⟨rfl, rfl⟩ | exact ⟨rfl, fun _ _ => rfl⟩ | exact fun _ _ h => h | (intro _ _ h; cases h; done) | exact ⟨rfl, Int.toNat_natCast _, rfl⟩, ?_⟩; conv => whnf))
                intro _ _
                conv => whnf
                refine ⟨fun h => absurd h (by simp), fun _ => ?_⟩
                conv => whnf
                refine ⟨i + 1, rfl, ⟨hlt, by show 4 - (i + 1) < 4 - i; omega⟩, ?_⟩
                conv => whnf
                repeat (first | exact trivial | (refine ⟨by first | exact ⟨rfl, rfl, rfl⟩ | rfl | exact ⟨rfl, rfl⟩ | exact ⟨rfl, fun _ _ => rfl⟩ | exact fun _ _ h => h | (intro _ _ h; cases h; done) | exact wrapi_succ (by omega), ?_⟩; conv => whnf))
              · conv => whnf
                refine ⟨fun h => absurd h (by simp), fun _ => ?_⟩
                conv => whnf
                refine ⟨i + 1, rfl, ⟨hlt, by show 4 - (i + 1) < 4 - i; omega⟩, ?_⟩
                conv => whnf
                repeat (first | exact trivial | (refine ⟨by first | exact ⟨rfl, rfl, rfl⟩ | rfl | exact ⟨rfl, rfl⟩ | exact ⟨rfl, fun _ _ => rfl⟩ | exact fun _ _ h => h | (intro _ _ h; cases h; done) | exact wrapi_succ (by omega), ?_⟩; conv => whnf))
            · refine ⟨(), trivial, ?_⟩
              conv => whnf
              repeat (first | exact trivial | exact fun _ _ h => h | (refine ⟨by first | exact ⟨rfl, rfl, rfl⟩ | rfl | exact ⟨rfl, rfl⟩ | exact ⟨rfl, fun _ _ => rfl⟩ | exact fun _ _ h => h | (intro _ _ h; cases h; done), ?_⟩; conv => whnf))
              exact hx8
    · conv => whnf
      have hys : ∀ y ∈ ([⟨n1, A1, c1⟩, ⟨n3, A3, c3⟩, ⟨n5, A5, c5⟩] : List NP), OkNP n m8 y := all3 (ok1 m8 h68) (ok3 m8 h68) (ok5 m8 h68)
      obtain ⟨ys, hysd⟩ : ∃ ys : List NP, ys = [⟨n1, A1, c1⟩, ⟨n3, A3, c3⟩, ⟨n5, A5, c5⟩] := ⟨_, rfl⟩
      rw [← hysd] at hys
      have hyl : ys.length = 3 := by rw [hysd]; rfl
      refine ⟨Nat, fun i => i ≤ 3, fun i => ⟨240, [⟨3, [], .p 1 0⟩, ⟨131, [], .rw 2 3⟩, ⟨132, [], .i .i64 3⟩, ⟨133, [], .i .i64 i⟩], [], [(1, .st 27 (nodeC n (.sl A n.log.items.length c))), (2, .row 27 26 3 (npsV ys))], 3⟩, fun _ => m8, fun i => 3 - i, ⟨0, rfl, Nat.zero_le _, ?_⟩, ?_⟩
      conv => whnf
      · conv => whnf
        repeat (first | exact trivial | (refine ⟨by first | exact ⟨rfl, rfl, rfl⟩ | rfl | exact ⟨rfl, rfl⟩ | exact ⟨rfl, fun _ _ => rfl⟩ | exact fun _ _ h => h | (intro _ _ h; cases h; done) | (rw [hysd]; exact ⟨rfl, rfl⟩), ?_⟩; conv => whnf))
      · intro i hi
        refine ⟨fun hlt => ?_, fun hge => ?_⟩
        conv => whnf
        · have hlt : i < 3 := by have h2 : (i : Int) < (3 : Int) := of_decide_eq_true hlt; omega
          have hE := getNP (xs := ys) (Nat.lt_of_lt_of_eq hlt hyl.symm)
          refine Exists.elim hE fun y hy => ?_
          have hok := hys y (List.mem_of_getElem? hy)
          refine ⟨⟨Int.natCast_nonneg _, by show (i : Int) < (3 : Int); omega, by decide⟩, ?_⟩
          conv => whnf
          refine ⟨.g (nodeC y.n (.sl y.A y.n.log.items.length y.c)), ⟨rfl, rfl, rfl, np_le hy, np_at hy⟩, ?_⟩
          conv => whnf
          refine ⟨⟨y.n, y.A, y.c, m8⟩, ⟨hok.c, Nat.lt_of_le_of_lt hok.f.l (by decide)⟩, ?_⟩
          conv => whnf
          repeat (first | exact trivial | (refine ⟨by first | exact ⟨rfl, rfl, rfl⟩ | rfl | exact ⟨rfl, rfl⟩ | exact ⟨rfl, fun _ _ => rfl⟩ | exact fun _ _ h => h | (intro _ _ h; cases h; done), ?_⟩; conv => whnf))
          intro _ _
          have hgy := fine_iff.2 hok.f
          have hw := hok.o.w
          have hw1 := Int.not_lt.2 hw.t
          have hw2 := Int.not_lt.2 hw.c
          have hw3 := Int.not_lt.2 hw.b
          conv => whnf
          refine ⟨fun h => absurd h (by simp [hgy, hw.me, hw.sz, hw1, hw2, hw3]), fun _ => ?_⟩
          conv => whnf
          refine ⟨fun h => ?_, fun _ => ?_⟩
          · have hv := hok.o.v
            exfalso
            simp only [Bool.if_false_right, Bool.and_eq_true, decide_eq_true_eq, beq_iff_eq, bne_iff_ne] at h
            exact h.2 (hv h.1.1 h.1.2)
          conv => whnf
          have hlead : (if (n.role == 2) = true then y.n.log.term == n.log.term else false) = true → n.log.items.length ≤ y.n.log.items.length ∧ y.n.log.items.take n.log.items.length = n.log.items := fun h => by
            simp only [Bool.if_false_right, Bool.and_eq_true, decide_eq_true_eq, beq_iff_eq] at h
            obtain ⟨l, hl⟩ := hok.o.i h.1 h.2
            rw [hl]
            exact ⟨by rw [List.length_append]; omega, List.take_left' rfl⟩
          refine Or.inr ⟨[1,3], sc6_31, by kernel_rfl, ?_⟩
          conv => whnf
          refine ⟨fun h => ?_, ?_⟩
          · have h : ((decide ((y.n.log.items.length : Int) < (n.log.items.length : Int)) == false) && (((if (n.role == 2) = true then y.n.log.term == n.log.term else false) == true) && true)) = true := h
            rw [Bool.and_eq_true, Bool.and_eq_true, beq_iff_eq, beq_iff_eq] at h
            have h1 := (hlead h.2.1).1
            have h2 := hok.l
            exact ⟨Int.natCast_nonneg _, by omega⟩
          conv => whnf
          refine ⟨fun h12 => ?_, fun h12 => ?_⟩
          · obtain ⟨hle, hta⟩ := hlead h12
            have hnlt : decide ((y.n.log.items.length : Int) < (n.log.items.length : Int)) = false := decide_eq_false (by omega)
            have hcy : Cells m8 y.A (itemsV n.log.items) := by rw [← hta]; exact hok.c.takeI _
            conv => whnf
            refine ⟨fun h => absurd h (by rw [hnlt]; decide), fun _ => ?_⟩
            refine ⟨⟨n.log.items, y.A, y.c, A, c, m8⟩, ⟨hcy, hM, hl⟩, ?_⟩
            conv => whnf
            repeat (first | exact trivial | (refine ⟨by first | exact ⟨rfl, rfl, rfl⟩ | rfl | exact ⟨rfl, rfl⟩ | exact ⟨rfl, fun _ _ => rfl⟩ | exact fun _ _ h => h | (intro _ _ h; cases h; done) | exact ⟨rfl, Int.toNat_natCast _, rfl⟩, ?_⟩; conv => whnf))
            intro _ _
            conv => whnf
            refine ⟨fun h => absurd h (by simp), fun _ => ?_⟩
            conv => whnf
            refine ⟨i + 1, rfl, ⟨hlt, by show 3 - (i + 1) < 3 - i; omega⟩, ?_⟩
            conv => whnf
            repeat (first | exact trivial | (refine ⟨by first | exact ⟨rfl, rfl, rfl⟩ | rfl | exact ⟨rfl, rfl⟩ | exact ⟨rfl, fun _ _ => rfl⟩ | exact fun _ _ h => h | (intro _ _ h; cases h; done) | exact wrapi_succ (by omega), ?_⟩; conv => whnf))
          · conv => whnf
            refine ⟨fun h => absurd h (by simp), fun _ => ?_⟩
            conv => whnf
            refine ⟨i + 1, rfl, ⟨hlt, by show 3 - (i + 1) < 3 - i; omega⟩, ?_⟩
            conv => whnf
            repeat (first | exact trivial | (refine ⟨by first | exact ⟨rfl, rfl, rfl⟩ | rfl | exact ⟨rfl, rfl⟩ | exact ⟨rfl, fun _ _ => rfl⟩ | exact fun _ _ h => h | (intro _ _ h; cases h; done) | exact wrapi_succ (by omega), ?_⟩; conv => whnf))
        · refine ⟨(), trivial, ?_⟩
          conv => whnf
          repeat (first | exact trivial | exact fun _ _ h => h | (refine ⟨by first | exact ⟨rfl, rfl, rfl⟩ | rfl | exact ⟨rfl, rfl⟩ | exact ⟨rfl, fun _ _ => rfl⟩ | exact fun _ _ h => h | (intro _ _ h; cases h; done), ?_⟩; conv => whnf))
          exact hx8
  · conv => whnf
    refine ⟨⟨n, A, c, k, D, e, m6⟩, ⟨⟨hM, hcap, hl⟩, ⟨((hD.ext h02).ext h24).ext h46, hde, hkl⟩⟩, ?_⟩
    conv => whnf
    repeat (first | exact trivial | (refine ⟨by first | exact ⟨rfl, rfl, rfl⟩ | rfl | exact ⟨rfl, rfl⟩ | exact ⟨rfl, fun _ _ => rfl⟩ | exact fun _ _ h => h | (intro _ _ h; cases h; done), ?_⟩; conv => whnf))
    rintro ⟨n7, A7, c7, os7, O7, oc7, m7⟩ ⟨hn7, hk7, ⟨hc7, hle7⟩, ⟨ho7, hoc7⟩, hs7, hx7⟩ m8 h68 h78
    have hM := hM.ext h68
    have hx8 := ext_trans hx6 h68
    have hn7 : n7 = (stepR n k).n := hn7
    have ok7 : (stepR n k).e = 0 → (∀ b o, m7 b = some o → m8 b = some o) → OkNP n m8 ⟨n7, A7, c7⟩ := fun he h => ⟨by rw [hn7]; exact (step_onto hf (step_heard he)).1, by rw [hn7]; exact (step_onto hf (step_heard he)).2, hc7.ext h, hle7⟩
    conv => whnf
    refine ⟨fun he7 => ?_, fun he7 => ?_⟩
    · conv => whnf
      refine ⟨Nat.le_refl 1, ?_⟩
      conv => whnf
      refine ⟨⟨by decide, by decide, by decide⟩, ?_⟩
      conv => whnf
      have he7 : (stepR n k).e = 0 := by simpa using he7
      have htalk := step_talk he7
      have hk7 : os7.map (·.k) = (stepR n k).ks := hk7
      rw [← hn7, ← hk7] at htalk
      have hom := ho7.ext h78
      obtain ⟨s, hs⟩ : ∃ s, s = os7.length := ⟨_, rfl⟩
      have hsl : s < 2 ^ 62 := by have := (step_short n k).l; rw [← hk7, List.length_map] at this; omega
      refine ⟨Nat, fun i => i ≤ s, fun i => ⟨240, [⟨3, [], .p 1 0⟩, ⟨17, [], .p 2 0⟩, ⟨7, [], .rw 3 3⟩, ⟨92, [], .sl O7 s oc7⟩, ⟨93, [], .i .i64 s⟩, ⟨94, [], .i .i64 i⟩], [], [(1, .st 27 (nodeC n (.sl A n.log.items.length c))), (2, .st 27 (nodeC n7 (.sl A7 n7.log.items.length c7))), (3, .row 27 26 3 (npsV [⟨n1, A1, c1⟩, ⟨n3, A3, c3⟩, ⟨n7, A7, c7⟩]))], 4⟩, fun _ => m8, fun i => s - i, ⟨0, rfl, Nat.zero_le _, ?_⟩, ?_⟩
      conv => whnf
      · conv => whnf
        repeat (first | exact trivial | (refine ⟨by first | exact ⟨rfl, rfl, rfl⟩ | rfl | exact ⟨rfl, rfl⟩ | exact ⟨rfl, fun _ _ => rfl⟩ | exact fun _ _ h => h | (intro _ _ h; cases h; done) | exact ⟨rfl, hs.symm, rfl⟩ | exact congrArg Int.ofNat hs.symm, ?_⟩; conv => whnf))
      · intro i hi
        refine ⟨fun hlt => ?_, fun hge => ?_⟩
        conv => whnf
        · have hlt : i < s := by have h2 : (i : Int) < (s : Int) := of_decide_eq_true hlt; omega
          have hE := getIm (xs := os7) (Nat.lt_of_lt_of_eq hlt hs)
          refine Exists.elim hE fun o ho => ?_
          have ht := htalk o.k (List.mem_map_of_mem (f := (·.k)) (List.mem_of_getElem? ho))
          refine ⟨⟨Int.natCast_nonneg _, by show (i : Int) < (s : Int); omega, hom.someM ho⟩, ?_⟩
          conv => whnf
          refine ⟨.g (msgC o.k (.sl o.A o.k.items.length o.c)), ⟨rfl, rfl, mem_msg hom ho⟩, ?_⟩
          conv => whnf
          have ht5 := Int.not_le.2 ht.2.2.2.1
          refine ⟨fun h => absurd h (by simp [ht.1, ht.2.1, ht.2.2.1, ht.2.2.2.2, ht5]), fun _ => ?_⟩
          conv => whnf
          refine ⟨i + 1, rfl, ⟨hlt, by show s - (i + 1) < s - i; omega⟩, ?_⟩
          conv => whnf
          repeat (first | exact trivial | (refine ⟨by first | exact ⟨rfl, rfl, rfl⟩ | rfl | exact ⟨rfl, rfl⟩ | exact ⟨rfl, fun _ _ => rfl⟩ | exact fun _ _ h => h | (intro _ _ h; cases h; done) | exact wrapi_succ (by omega), ?_⟩; conv => whnf))
        · have hys : ∀ y ∈ ([⟨n1, A1, c1⟩, ⟨n3, A3, c3⟩, ⟨n7, A7, c7⟩] : List NP), OkNP n m8 y := all3 (ok1 m8 h68) (ok3 m8 h68) (ok7 he7 h78)
          obtain ⟨ys, hysd⟩ : ∃ ys : List NP, ys = [⟨n1, A1, c1⟩, ⟨n3, A3, c3⟩, ⟨n7, A7, c7⟩] := ⟨_, rfl⟩
          rw [← hysd] at hys
          have hyl : ys.length = 3 := by rw [hysd]; rfl
          refine ⟨Nat, fun i => i ≤ 3, fun i => ⟨240, [⟨3, [], .p 1 0⟩, ⟨131, [], .rw 2 3⟩, ⟨132, [], .i .i64 3⟩, ⟨133, [], .i .i64 i⟩], [], [(1, .st 27 (nodeC n (.sl A n.log.items.length c))), (2, .row 27 26 3 (npsV ys))], 3⟩, fun _ => m8, fun i => 3 - i, ⟨0, rfl, Nat.zero_le _, ?_⟩, ?_⟩
          conv => whnf
          · conv => whnf
            repeat (first | exact trivial | (refine ⟨by first | exact ⟨rfl, rfl, rfl⟩ | rfl | exact ⟨rfl, rfl⟩ | exact ⟨rfl, fun _ _ => rfl⟩ | exact fun _ _ h => h | (intro _ _ h; cases h; done) | (rw [hysd]; exact ⟨rfl, rfl⟩), ?_⟩; conv => whnf))
          · intro i hi
            refine ⟨fun hlt => ?_, fun hge => ?_⟩
            conv => whnf
            · have hlt : i < 3 := by have h2 : (i : Int) < (3 : Int) := of_decide_eq_true hlt; omega
              have hE := getNP (xs := ys) (Nat.lt_of_lt_of_eq hlt hyl.symm)
              refine Exists.elim hE fun y hy => ?_
              have hok := hys y (List.mem_of_getElem? hy)
              refine ⟨⟨Int.natCast_nonneg _, by show (i : Int) < (3 : Int); omega, by decide⟩, ?_⟩
              conv => whnf
              refine ⟨.g (nodeC y.n (.sl y.A y.n.log.items.length y.c)), ⟨rfl, rfl, rfl, np_le hy, np_at hy⟩, ?_⟩
              conv => whnf
              refine ⟨⟨y.n, y.A, y.c, m8⟩, ⟨hok.c, Nat.lt_of_le_of_lt hok.f.l (by decide)⟩, ?_⟩
              conv => whnf
              repeat (first | exact trivial | (refine ⟨by first | exact ⟨rfl, rfl, rfl⟩ | rfl | exact ⟨rfl, rfl⟩ | exact ⟨rfl, fun _ _ => rfl⟩ | exact fun _ _ h => h | (intro _ _ h; cases h; done), ?_⟩; conv => whnf))
              intro _ _
              have hgy := fine_iff.2 hok.f
              have hw := hok.o.w
              have hw1 := Int.not_lt.2 hw.t
              have hw2 := Int.not_lt.2 hw.c
              have hw3 := Int.not_lt.2 hw.b
              conv => whnf
              refine ⟨fun h => absurd h (by simp [hgy, hw.me, hw.sz, hw1, hw2, hw3]), fun _ => ?_⟩
              conv => whnf
              refine ⟨fun h => ?_, fun _ => ?_⟩
              · have hv := hok.o.v
                exfalso
                simp only [Bool.if_false_right, Bool.and_eq_true, decide_eq_true_eq, beq_iff_eq, bne_iff_ne] at h
                exact h.2 (hv h.1.1 h.1.2)
              conv => whnf
              have hlead : (if (n.role == 2) = true then y.n.log.term == n.log.term else false) = true → n.log.items.length ≤ y.n.log.items.length ∧ y.n.log.items.take n.log.items.length = n.log.items := fun h => by
                simp only [Bool.if_false_right, Bool.and_eq_true, decide_eq_true_eq, beq_iff_eq] at h
                obtain ⟨l, hl⟩ := hok.o.i h.1 h.2
                rw [hl]
                exact ⟨by rw [List.length_append]; omega, List.take_left' rfl⟩
              refine Or.inr ⟨[1,3], sc6_31, by kernel_rfl, ?_⟩
              conv => whnf
              refine ⟨fun h => ?_, ?_⟩
              · have h : ((decide ((y.n.log.items.length : Int) < (n.log.items.length : Int)) == false) && (((if (n.role == 2) = true then y.n.log.term == n.log.term else false) == true) && true)) = true := h
                rw [Bool.and_eq_true, Bool.and_eq_true, beq_iff_eq, beq_iff_eq] at h
                have h1 := (hlead h.2.1).1
                have h2 := hok.l
                exact ⟨Int.natCast_nonneg _, by omega⟩
              conv => whnf
              refine ⟨fun h12 => ?_, fun h12 => ?_⟩
              · obtain ⟨hle, hta⟩ := hlead h12
                have hnlt : decide ((y.n.log.items.length : Int) < (n.log.items.length : Int)) = false := decide_eq_false (by omega)
                have hcy : Cells m8 y.A (itemsV n.log.items) := by rw [← hta]; exact hok.c.takeI _
                conv => whnf
                refine ⟨fun h => absurd h (by rw [hnlt]; decide), fun _ => ?_⟩
                refine ⟨⟨n.log.items, y.A, y.c, A, c, m8⟩, ⟨hcy, hM, hl⟩, ?_⟩
                conv => whnf
                repeat (first | exact trivial | (refine ⟨by first | exact ⟨rfl, rfl, rfl⟩ | rfl | exact ⟨rfl, rfl⟩ | exact ⟨rfl, fun _ _ => rfl⟩ | exact fun _ _ h => h | (intro _ _ h; cases h; done) | exact ⟨rfl, Int.toNat_natCast _, rfl⟩, ?_⟩; conv => whnf))
                intro _ _
                conv => whnf
                refine ⟨fun h => absurd h (by simp), fun _ => ?_⟩
                conv => whnf
                refine ⟨i + 1, rfl, ⟨hlt, by show 3 - (i + 1) < 3 - i; omega⟩, ?_⟩
                conv => whnf
                repeat (first | exact trivial | (refine ⟨by first | exact ⟨rfl, rfl, rfl⟩ | rfl | exact ⟨rfl, rfl⟩ | exact ⟨rfl, fun _ _ => rfl⟩ | exact fun _ _ h => h | (intro _ _ h; cases h; done) | exact wrapi_succ (by omega), ?_⟩; conv => whnf))
              · conv => whnf
                refine ⟨fun h => absurd h (by simp), fun _ => ?_⟩
                conv => whnf
                refine ⟨i + 1, rfl, ⟨hlt, by show 3 - (i + 1) < 3 - i; omega⟩, ?_⟩
                conv => whnf
                repeat (first | exact trivial | (refine ⟨by first | exact ⟨rfl, rfl, rfl⟩ | rfl | exact ⟨rfl, rfl⟩ | exact ⟨rfl, fun _ _ => rfl⟩ | exact fun _ _ h => h | (intro _ _ h; cases h; done) | exact wrapi_succ (by omega), ?_⟩; conv => whnf))
            · refine ⟨(), trivial, ?_⟩
              conv => whnf
              repeat (first | exact trivial | exact fun _ _ h => h | (refine ⟨by first | exact ⟨rfl, rfl, rfl⟩ | rfl | exact ⟨rfl, rfl⟩ | exact ⟨rfl, fun _ _ => rfl⟩ | exact fun _ _ h => h | (intro _ _ h; cases h; done), ?_⟩; conv => whnf))
              exact hx8
    · conv => whnf
      have hys : ∀ y ∈ ([⟨n1, A1, c1⟩, ⟨n3, A3, c3⟩] : List NP), OkNP n m8 y := all2 (ok1 m8 h68) (ok3 m8 h68)
      obtain ⟨ys, hysd⟩ : ∃ ys : List NP, ys = [⟨n1, A1, c1⟩, ⟨n3, A3, c3⟩] := ⟨_, rfl⟩
      rw [← hysd] at hys
      have hyl : ys.length = 2 := by rw [hysd]; rfl
      refine ⟨Nat, fun i => i ≤ 2, fun i => ⟨240, [⟨3, [], .p 1 0⟩, ⟨131, [], .rw 2 2⟩, ⟨132, [], .i .i64 2⟩, ⟨133, [], .i .i64 i⟩], [], [(1, .st 27 (nodeC n (.sl A n.log.items.length c))), (2, .row 27 26 2 (npsV ys))], 3⟩, fun _ => m8, fun i => 2 - i, ⟨0, rfl, Nat.zero_le _, ?_⟩, ?_⟩
      conv => whnf
      · conv => whnf
        repeat (first | exact trivial | (refine ⟨by first | exact ⟨rfl, rfl, rfl⟩ | rfl | exact ⟨rfl, rfl⟩ | exact ⟨rfl, fun _ _ => rfl⟩ | exact fun _ _ h => h | (intro _ _ h; cases h; done) | (rw [hysd]; exact ⟨rfl, rfl⟩), ?_⟩; conv => whnf))
      · intro i hi
        refine ⟨fun hlt => ?_, fun hge => ?_⟩
        conv => whnf
        · have hlt : i < 2 := by have h2 : (i : Int) < (2 : Int) := of_decide_eq_true hlt; omega
          have hE := getNP (xs := ys) (Nat.lt_of_lt_of_eq hlt hyl.symm)
          refine Exists.elim hE fun y hy => ?_
          have hok := hys y (List.mem_of_getElem? hy)
          refine ⟨⟨Int.natCast_nonneg _, by show (i : Int) < (2 : Int); omega, by decide⟩, ?_⟩
          conv => whnf
          refine ⟨.g (nodeC y.n (.sl y.A y.n.log.items.length y.c)), ⟨rfl, rfl, rfl, np_le hy, np_at hy⟩, ?_⟩
          conv => whnf
          refine ⟨⟨y.n, y.A, y.c, m8⟩, ⟨hok.c, Nat.lt_of_le_of_lt hok.f.l (by decide)⟩, ?_⟩
          conv => whnf
          repeat (first | exact trivial | (refine ⟨by first | exact ⟨rfl, rfl, rfl⟩ | rfl | exact ⟨rfl, rfl⟩ | exact ⟨rfl, fun _ _ => rfl⟩ | exact fun _ _ h => h | (intro _ _ h; cases h; done), ?_⟩; conv => whnf))
          intro _ _
          have hgy := fine_iff.2 hok.f
          have hw := hok.o.w
          have hw1 := Int.not_lt.2 hw.t
          have hw2 := Int.not_lt.2 hw.c
          have hw3 := Int.not_lt.2 hw.b
          conv => whnf
          refine ⟨fun h => absurd h (by simp [hgy, hw.me, hw.sz, hw1, hw2, hw3]), fun _ => ?_⟩
          conv => whnf
          refine ⟨fun h => ?_, fun _ => ?_⟩
          · have hv := hok.o.v
            exfalso
            simp only [Bool.if_false_right, Bool.and_eq_true, decide_eq_true_eq, beq_iff_eq, bne_iff_ne] at h
            exact h.2 (hv h.1.1 h.1.2)
          conv => whnf
          have hlead : (if (n.role == 2) = true then y.n.log.term == n.log.term else false) = true → n.log.items.length ≤ y.n.log.items.length ∧ y.n.log.items.take n.log.items.length = n.log.items := fun h => by
            simp only [Bool.if_false_right, Bool.and_eq_true, decide_eq_true_eq, beq_iff_eq] at h
            obtain ⟨l, hl⟩ := hok.o.i h.1 h.2
            rw [hl]
            exact ⟨by rw [List.length_append]; omega, List.take_left' rfl⟩
          refine Or.inr ⟨[1,3], sc6_31, by kernel_rfl, ?_⟩
          conv => whnf
          refine ⟨fun h => ?_, ?_⟩
          · have h : ((decide ((y.n.log.items.length : Int) < (n.log.items.length : Int)) == false) && (((if (n.role == 2) = true then y.n.log.term == n.log.term else false) == true) && true)) = true := h
            rw [Bool.and_eq_true, Bool.and_eq_true, beq_iff_eq, beq_iff_eq] at h
            have h1 := (hlead h.2.1).1
            have h2 := hok.l
            exact ⟨Int.natCast_nonneg _, by omega⟩
          conv => whnf
          refine ⟨fun h12 => ?_, fun h12 => ?_⟩
          · obtain ⟨hle, hta⟩ := hlead h12
            have hnlt : decide ((y.n.log.items.length : Int) < (n.log.items.length : Int)) = false := decide_eq_false (by omega)
            have hcy : Cells m8 y.A (itemsV n.log.items) := by rw [← hta]; exact hok.c.takeI _
            conv => whnf
            refine ⟨fun h => absurd h (by rw [hnlt]; decide), fun _ => ?_⟩
            refine ⟨⟨n.log.items, y.A, y.c, A, c, m8⟩, ⟨hcy, hM, hl⟩, ?_⟩
            conv => whnf
            repeat (first | exact trivial | (refine ⟨by first | exact ⟨rfl, rfl, rfl⟩ | rfl | exact ⟨rfl, rfl⟩ | exact ⟨rfl, fun _ _ => rfl⟩ | exact fun _ _ h => h | (intro _ _ h; cases h; done) | exact ⟨rfl, Int.toNat_natCast _, rfl⟩, ?_⟩; conv => whnf))
            intro _ _
            conv => whnf
            refine ⟨fun h => absurd h (by simp), fun _ => ?_⟩
            conv => whnf
            refine ⟨i + 1, rfl, ⟨hlt, by show 2 - (i + 1) < 2 - i; omega⟩, ?_⟩
            conv => whnf
            repeat (first | exact trivial | (refine ⟨by first | exact ⟨rfl, rfl, rfl⟩ | rfl | exact ⟨rfl, rfl⟩ | exact ⟨rfl, fun _ _ => rfl⟩ | exact fun _ _ h => h | (intro _ _ h; cases h; done) | exact wrapi_succ (by omega), ?_⟩; conv => whnf))
          · conv => whnf
            refine ⟨fun h => absurd h (by simp), fun _ => ?_⟩
            conv => whnf
            refine ⟨i + 1, rfl, ⟨hlt, by show 2 - (i + 1) < 2 - i; omega⟩, ?_⟩
            conv => whnf
            repeat (first | exact trivial | (refine ⟨by first | exact ⟨rfl, rfl, rfl⟩ | rfl | exact ⟨rfl, rfl⟩ | exact ⟨rfl, fun _ _ => rfl⟩ | exact fun _ _ h => h | (intro _ _ h; cases h; done) | exact wrapi_succ (by omega), ?_⟩; conv => whnf))
        · refine ⟨(), trivial, ?_⟩
          conv => whnf
          repeat (first | exact trivial | exact fun _ _ h => h | (refine ⟨by first | exact ⟨rfl, rfl, rfl⟩ | rfl | exact ⟨rfl, rfl⟩ | exact ⟨rfl, fun _ _ => rfl⟩ | exact fun _ _ h => h | (intro _ _ h; cases h; done), ?_⟩; conv => whnf))
          exact hx8
end Go.Proofs.Ytjpjiniclibgkaa.Sx

namespace Go.Proofs.Ytjpjiniclibgkaa.Stays
open Go Go.ChangeShapes Go.WideShapes Go.ChangeAt Go.RowKit Sx

theorem contract (H : Type) (enc : TypeId × Value → H) (W : World) (base : Nat) (args : Array Value) (ds gs : List (DataW H)) (before : List MemPlace)
    (hval : ∀ (j : Nat) t v, Try.f6.params[j]? = some t → args[j]? = some v → Value.okWide Try.prog W .any base t v)
    (hW : DataW.Whole enc Try.prog Try.f6.params.toList Rows.raftStaysSpec.vars false W args.toList ds gs before) (hw : (DataW.weightsEach Try.prog (Try.f6.params.toList ++ (OpenSpec.ofChange Rows.raftStaysSpec).bare.plain.varTypes Try.prog) (ds ++ gs)).all (· ≤ reachBytes) = true) :
    Calls Try.prog 6 args W fun e W' => ∃ v, e = .returned v ∧ Rows.raftStaysSpec.post enc Try.prog Try.f6 false true false false W args v W' := by
  have hW' := hW
  obtain ⟨p, q, hA0, hV, rfl, hfz, hnd⟩ := hW
  have hA : DataW.TrodAll enc Try.prog W 0 (fun _ => true) true Try.f6.params.toList args.toList ds p := hA0
  rw [Try.params6] at hA hval
  obtain ⟨v0, vs0, d0, ds0, p0, q0, hargs, rfl, rfl, h0, r0⟩ := trodAll_cons hA
  obtain ⟨v1, vs1, d1, ds1, p1, q1, rfl, rfl, rfl, h1, r1⟩ := trodAll_cons r0
  obtain ⟨v2, vs2, d2, ds2, p2, q2, rfl, rfl, rfl, h2, r2⟩ := trodAll_cons r1
  obtain ⟨rfl, rfl, rfl⟩ := trodAll_nil r2
  obtain rfl : args = #[v0, v1, v2] := by cases args; simp_all
  rw [Try.params6] at hw
  simp only [List.cons_append, List.nil_append, DataW.weightsEach, List.all_append, Bool.and_eq_true] at hw
  obtain ⟨cs0, rfl⟩ := agg_of und27 (hval 0 27 v0 rfl rfl)
  obtain ⟨fu0, ht0⟩ := h0
  obtain ⟨n0, A0, c0, he0, hM0, hc0, hl0, hb0, hm0, hs0⟩ := open_node ht0 hw.1
  obtain ⟨cs1, rfl⟩ := agg_of und29 (hval 1 29 v1 rfl rfl)
  obtain ⟨fu1, ht1⟩ := h1
  obtain ⟨k1, A1, c1, he1, hM1, hc1, hl1⟩ := open_msg ht1 hw.2.1
  obtain ⟨cs2, rfl⟩ := agg_of und42 (hval 2 42 v2 rfl rfl)
  obtain ⟨fu2, ht2⟩ := h2
  obtain ⟨e2, he2⟩ := open_entry ht2
  refine (law_calls lawStays_ok ⟨n0, A0, c0, k1, A1, c1, e2, allMem W⟩ ⟨⟨hM0, hc0, hl0⟩, ⟨hM1, hc1, hl1⟩⟩ (fun _ _ h => h) rfl (by have hz0 := arr_of (cs := cs0) he0; have hz1 := arr_of (cs := cs1) he1; have hz2 := arr_of (cs := cs2) he2; rw [hz0, hz1, hz2]; rfl) fun _ => rfl).mono fun e W' ⟨he, hbl⟩ => ⟨_, he, ?_⟩
  exact law_post hbl laidOut (by rw [Try.params6]; intro t ht; simp only [List.mem_cons, List.not_mem_nil, or_false] at ht; rcases ht with rfl | rfl | rfl <;> exact ⟨by kernel_rfl, of_decide_eq_true (by kernel_rfl)⟩) (by kernel_rfl) und4 rfl
    (fun ds hd => by rw [Try.params6] at hd; match ds, hd with | [_, _, _], _ => rfl) hW'

theorem reads (os : Os) {H : Type} (enc : TypeId × Value → H) : ∃ places, DataW.whole enc Try.prog ((laidWorld os).forCall (fun _ _ => 0) ⟨#[], #[.agg #[.int .i64 0, .int .i64 0, .int .i64 0, .int .i64 0, .int .i64 0, .int .i64 0, .string ByteArray.empty, .slice none 0 0, .int .i64 0, .int .i64 0, .int .i64 0, .int .i64 0, .int .i64 0, .int .i64 0, .int .i64 0, .int .i64 0, .int .i64 0, .int .i64 0, .int .i64 0, .int .i64 0, .int .i64 0, .int .i64 0, .int .i64 0, .int .i64 0, .int .i64 0, .int .i64 0], .agg #[.int .i64 0, .int .i64 0, .int .i64 0, .int .i64 0, .int .i64 0, .int .i64 0, .int .i64 0, .bool false, .slice none 0 0, .string ByteArray.empty], .agg #[.int .i64 0, .int .i64 0, .int .i64 0, .int .i64 0, .string ByteArray.empty]], []⟩).memory Try.f6.params.toList Rows.raftStaysSpec.vars false (#[.agg #[.int .i64 0, .int .i64 0, .int .i64 0, .int .i64 0, .int .i64 0, .int .i64 0, .string ByteArray.empty, .slice none 0 0, .int .i64 0, .int .i64 0, .int .i64 0, .int .i64 0, .int .i64 0, .int .i64 0, .int .i64 0, .int .i64 0, .int .i64 0, .int .i64 0, .int .i64 0, .int .i64 0, .int .i64 0, .int .i64 0, .int .i64 0, .int .i64 0, .int .i64 0, .int .i64 0], .agg #[.int .i64 0, .int .i64 0, .int .i64 0, .int .i64 0, .int .i64 0, .int .i64 0, .int .i64 0, .bool false, .slice none 0 0, .string ByteArray.empty], .agg #[.int .i64 0, .int .i64 0, .int .i64 0, .int .i64 0, .string ByteArray.empty]] : Array Value).toList 8 = some ([.agg [.lit (.int .i64 0), .lit (.int .i64 0), .agg [.lit (.int .i64 0), .lit (.int .i64 0), .lit (.int .i64 0), .lit (.int .i64 0), .lit (.string []), .nil], .lit (.int .i64 0), .lit (.int .i64 0), .lit (.int .i64 0), .lit (.int .i64 0), .agg [.lit (.int .i64 0), .lit (.int .i64 0), .lit (.int .i64 0), .lit (.int .i64 0), .lit (.int .i64 0), .lit (.int .i64 0), .lit (.int .i64 0)], .agg [.lit (.int .i64 0), .lit (.int .i64 0), .lit (.int .i64 0), .lit (.int .i64 0), .lit (.int .i64 0), .lit (.int .i64 0), .lit (.int .i64 0)]], .agg [.lit (.int .i64 0), .lit (.int .i64 0), .lit (.int .i64 0), .lit (.int .i64 0), .lit (.int .i64 0), .lit (.int .i64 0), .lit (.int .i64 0), .lit (.bool false), .nil, .lit (.string [])], .agg [.lit (.int .i64 0), .lit (.int .i64 0), .lit (.int .i64 0), .lit (.int .i64 0), .lit (.string [])]], [], places) :=
  ⟨[], by kernel_rfl⟩
set_option maxRecDepth 100000 in
theorem lifted (os : Os) (started : os.Started) (H : Type) (enc : TypeId × Value → H) (F : Stop.Interp) :
    ReturnsInHanded {} Try.checked os 6 .any ((OpenSpec.ofChange Rows.raftStaysSpec).preRow enc Try.prog Try.f6 Rows.raftStaysRow.domain false Rows.raftStaysRow.laid) (((OpenSpec.ofChange Rows.raftStaysSpec).at F).post enc Try.prog Try.f6 false true false false) := by
  obtain ⟨places, hx⟩ := reads os enc
  refine returnsInHanded_of_row (C := Try.checked) (s := OpenSpec.ofChange Rows.raftStaysSpec) own started (by kernel_rfl) Try.func6
    (witness_row_at (enc := enc) (C := Try.checked) false (laidWorld os) #[.agg #[.int .i64 0, .int .i64 0, .int .i64 0, .int .i64 0, .int .i64 0, .int .i64 0, .string ByteArray.empty, .slice none 0 0, .int .i64 0, .int .i64 0, .int .i64 0, .int .i64 0, .int .i64 0, .int .i64 0, .int .i64 0, .int .i64 0, .int .i64 0, .int .i64 0, .int .i64 0, .int .i64 0, .int .i64 0, .int .i64 0, .int .i64 0, .int .i64 0, .int .i64 0, .int .i64 0], .agg #[.int .i64 0, .int .i64 0, .int .i64 0, .int .i64 0, .int .i64 0, .int .i64 0, .int .i64 0, .bool false, .slice none 0 0, .string ByteArray.empty], .agg #[.int .i64 0, .int .i64 0, .int .i64 0, .int .i64 0, .string ByteArray.empty]] rfl (by kernel_rfl) (by kernel_rfl) (by kernel_rfl)
      (OpenSpec.preRow_of_cond 8 hx (by kernel_rfl) (fun k hk => by cases hk) (by kernel_rfl) (laid_none os _))) ?_
  intro W base args ds gs before hval hW _ _ hw hL _ _
  exact contract H enc W base args ds gs before hval hW hw
theorem said : Rows.RaftStaysSaid :=
  OpenClaim.holds_of_cond 6 Try.f6 rfl rfl rfl rfl rfl rfl rfl ⟨rfl, rfl, rfl, rfl, rfl⟩ rfl rfl rfl rfl rfl (by kernel_rfl) Try.func6 (by kernel_rfl)
    (of_decide_eq_true (by kernel_rfl)) (by unfold Func.isWrapper; first | (rw [if_pos (by decide +kernel)]; kernel_rfl) | (rw [if_neg (by decide +kernel)]; exact ⟨rfl, rfl⟩))
    (fun os started H enc _ F => by rw [OpenClaim.pre_eq_preRow]; exact lifted os started H enc F)
end Go.Proofs.Ytjpjiniclibgkaa.Stays
