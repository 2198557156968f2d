/- The law RaftSteps, walked. Then: The law RaftTurns, walked. The law RaftCatches, walked. The law RaftStays, walked. -/
import Derived.Test.YtjpjiniclibgkaaSafeE
import Derived.Test.YtjpjiniclibgkaaSafeF
namespace Go.Proofs.Ytjpjiniclibgkaa.Sx
open Go

def S26 : List (Nat × Spec) := (10, wakesSpec) :: S25
theorem S26_all : ∀ f s, findS S26 f = some s → SpecOk Try.prog f s := CP_cons S25_all wakes_ok
theorem S26_ok : CPOk Try.prog (CPs S26) := CPs_ok S26_all
def lawStepsSpec : Spec where
  A := StepG
  R := fun ⟨n, A, c, k, D, e, m⟩ => (Cells m A (itemsV n.log.items) ∧ n.log.items.length ≤ c ∧ n.log.items.length < 2 ^ 62) ∧ (Cells m D (itemsV k.items) ∧ k.items.length ≤ e ∧ k.items.length < 2 ^ 62)
  J := fun ⟨_, _, _, _, _, _, m⟩ => m
  args := fun ⟨n, A, c, k, D, e, _⟩ => [.g (nodeC n (.sl A n.log.items.length c)), .g (msgC k (.sl D k.items.length e))]
  h := fun _ => []
  nx := 0
  Bb := Unit
  C := fun _ _ => True
  out := fun _ _ => .ret (.b true)
  h2 := fun _ _ => []
  nx2 := 0
theorem feed_len (n : Node) (to : Int) : (feedN n to).items.length ≤ 16 := by
  show (feedK n to).items.length ≤ 16
  unfold feedK
  split
  · exact Nat.zero_le _
  · show (List.take 16 _).length ≤ 16
    rw [List.length_take]; omega
theorem feedAll_len (n : Node) : ∀ k ∈ feedAllK n, k.items.length ≤ 16 := by
  intro k hk
  obtain ⟨i, _, rfl⟩ := List.mem_map.1 hk
  exact feed_len n i
theorem feedAll_cnt (n : Node) : (feedAllK n).length ≤ n.size.toNat := by
  unfold feedAllK; rw [List.length_map]; exact others_len n _
def Brief (r : HeardR) : Prop := ∀ a, r.k = some a → a.items = []
theorem brief_ask (n : Node) (k : Msg) : Brief (askR n k) := by rintro a h; cases h; rfl
theorem brief_lay (n : Node) (k : Msg) (a : Int) (xs : List Item) : Brief (layR n k a xs) := by
  intro b h
  unfold layR at h
  split at h <;> cases h
  rfl
theorem brief_append (n : Node) (k : Msg) : Brief (appendR n k) := by
  intro a h
  unfold appendR at h
  split at h
  · split at h
    · cases h
    · split at h
      · cases h; rfl
      · exact brief_lay _ _ _ _ a h
  · split at h
    · cases h; rfl
    · exact brief_lay _ _ _ _ a h
theorem brief_install (n : Node) (k : Msg) : Brief (installR n k) := by
  intro a h
  unfold installR at h
  split at h <;> cases h <;> rfl
structure Short (ks : List Msg) : Prop where
  l : ks.length ≤ 100
  i : ∀ j ∈ ks, j.items.length ≤ 16
theorem Short.nil : Short [] := ⟨Nat.zero_le _, fun _ h => by cases h⟩
theorem Short.one {k : Msg} (h : k.items.length ≤ 16) : Short [k] := ⟨by show 1 ≤ 100; omega, fun j hj => by obtain rfl := List.mem_singleton.1 hj; exact h⟩
theorem Short.feedAll {n : Node} (h : n.size ≤ 7) : Short (feedAllK n) := ⟨by have := feedAll_cnt n; omega, feedAll_len n⟩
theorem Short.heard {a : Node} {k : Msg} {r : HeardR} (h : Brief r) : Short (heardS a k r).ks := by
  show Short (repl1 a k r)
  unfold repl1
  cases hk : r.k with
  | none => exact Short.nil
  | some b =>
    refine Short.one ?_
    show b.items.length ≤ 16
    rw [h b hk]; exact Nat.zero_le _
theorem win_size (n : Node) : (winN n).size = n.size := by unfold winN; split <;> rfl
theorem Short.lead {n : Node} (h : n.size ≤ 7) : Short (leadS n).ks := by
  unfold leadS
  split
  · exact Short.feedAll (by rw [win_size]; exact h)
  · exact Short.nil
theorem heardK_short {n : Node} (k : Msg) (h : n.size ≤ 7) : Short (heardK n k).ks := by
  unfold heardK
  split
  · exact Short.heard (brief_ask n k)
  split
  · split
    · exact Short.lead h
    · exact Short.nil
  split
  · show Short (if gotY n k = true then _ else _)
    split
    · exact Short.one (feed_len _ _)
    · exact Short.nil
  · unfold leaderS
    split
    · exact Short.one (Nat.zero_le _)
    split
    · exact Short.nil
    split
    · exact Short.heard (brief_append _ _)
    · exact Short.heard (brief_install _ _)
/-- No answer is long. -/
theorem step_short (n : Node) (k : Msg) : Short (stepR n k).ks := by
  unfold stepR
  split
  · rename_i h
    have hf := fine_iff.1 h.1
    refine heardK_short k ?_
    have : (turnN n k).size = n.size := by unfold turnN; split <;> rfl
    rw [this]; exact hf.s2
  · exact Short.nil
theorem step_len (n : Node) (k : Msg) : (stepR n k).n.log.items.length < 2 ^ 62 := by
  by_cases h : goodB n = true ∧ soundB n k = true
  · exact Nat.lt_of_le_of_lt (step_onto (fine_iff.1 h.1) (heard_iff.1 h.2)).1.l (by decide)
  · unfold stepR; rw [if_neg h]; decide
end Go.Proofs.Ytjpjiniclibgkaa.Sx

namespace Go.Proofs.Ytjpjiniclibgkaa.Sx
open Go

def S27 : List (Nat × Spec) := (23, turnSpec beatR) :: (25, turnSpec beatR) :: (27, propSpec) :: (29, propSpec) :: (30, compSpec) :: (31, compSpec) :: S26
theorem S27_all : ∀ f s, findS S27 f = some s → SpecOk Try.prog f s := CP_cons (CP_cons (CP_cons (CP_cons (CP_cons (CP_cons S26_all refCompact_ok) compact_ok) refPropose_ok) propose_ok) refBeat_ok) beat_ok
theorem S27_ok : CPOk Try.prog (CPs S27) := CPs_ok S27_all
theorem Short.append {a b : List Msg} (ha : a.length ≤ 50) (hi : ∀ j ∈ a, j.items.length ≤ 16) (hb : b.length ≤ 50) (hj : ∀ j ∈ b, j.items.length ≤ 16) : Short (a ++ b) :=
  ⟨by rw [List.length_append]; omega, fun j h => (List.mem_append.1 h).elim (hi j) (hj j)⟩
theorem asks_brief (n : Node) (a b : Int) (i : Nat) : ∀ j ∈ asksK n a b i, j.items.length ≤ 16 := by
  intro k hk
  obtain ⟨i, _, rfl⟩ := List.mem_map.1 hk
  exact Nat.zero_le _
theorem timeout_short (n : Node) : Short (timeoutR n).ks := by
  unfold timeoutR
  split
  · rename_i h
    have hf := fine_iff.1 h
    have hs := hf.s2
    split
    · exact Short.nil
    · have hl : Short (leadS (candN n)).ks := Short.lead (n := candN n) hs
      have h1 := asks_len (candN n) (lastN n.log).1 (lastN n.log).2 n.size.toNat
      have h2 : (leadS (candN n)).ks.length ≤ 50 := by
        unfold leadS
        split
        · have := feedAll_cnt (winN (candN n)); rw [win_size] at this; have h3 : (candN n).size = n.size := rfl; rw [h3] at this; show (feedAllK _).length ≤ 50; omega
        · exact Nat.zero_le _
      exact Short.append (by show (asksK _ _ _ _).length ≤ 50; omega) (asks_brief _ _ _ _) h2 hl.i
  · exact Short.nil
theorem beat_short (n : Node) : Short (beatR n).ks := by
  unfold beatR
  split
  · rename_i h
    split
    · exact Short.feedAll (fine_iff.1 h).s2
    · exact Short.nil
  · exact Short.nil
theorem propose_short (n : Node) (e : Entry) : Short (proposeR n e).ks := by
  unfold proposeR
  split
  · rename_i h
    split
    · split
      · exact Short.feedAll (n := putN n e) (fine_iff.1 h.1).s2
      · exact Short.nil
    · exact Short.nil
  · exact Short.nil
def bB : ByteArray := ⟨#[98]⟩
structure TurnsG where
  n : Node
  A : Option Addr
  c : Nat
  e : Entry
  i : Int
  m : Mem
def lawTurnsSpec : Spec where
  A := TurnsG
  R := fun ⟨n, A, c, _, i, m⟩ => Cells m A (itemsV n.log.items) ∧ n.log.items.length ≤ c ∧ n.log.items.length < 2 ^ 62 ∧ fits n.log.base ∧ fits n.me ∧ fits n.size ∧ fits i
  J := fun ⟨_, _, _, _, _, m⟩ => m
  args := fun ⟨n, A, c, e, i, _⟩ => [.g (nodeC n (.sl A n.log.items.length c)), .g (entryC e), .i .i64 i]
  h := fun _ => []
  nx := 0
  Bb := Unit
  C := fun _ _ => True
  out := fun _ _ => .ret (.b true)
  h2 := fun _ _ => []
  nx2 := 0
theorem timeout_len (n : Node) : (timeoutR n).n.log.items.length < 2 ^ 62 := by
  by_cases h : goodB n = true
  · exact Nat.lt_of_le_of_lt (timeout_onto (fine_iff.1 h)).1.l (by decide)
  · unfold timeoutR; rw [if_neg h]; decide
theorem beat_len (n : Node) : (beatR n).n.log.items.length < 2 ^ 62 := by
  by_cases h : goodB n = true
  · rw [(beat_onto (fine_iff.1 h)).1]; exact Nat.lt_of_le_of_lt (fine_iff.1 h).l (by decide)
  · unfold beatR; rw [if_neg h]; decide
theorem propose_len (n : Node) (e : Entry) : (proposeR n e).n.log.items.length < 2 ^ 62 := by
  by_cases h : (proposeR n e).e = 0
  · by_cases hg : goodB n = true
    · exact Nat.lt_of_le_of_lt (propose_onto (fine_iff.1 hg) h).1.l (by decide)
    · unfold proposeR at h
      rw [if_neg (fun x => hg x.1)] at h; cases h
  · unfold proposeR at h ⊢
    split
    · rename_i h1
      rw [if_pos h1] at h
      split
      · rename_i h2
        rw [if_pos h2] at h
        split
        · rename_i h3
          rw [if_pos h3] at h
          exact absurd rfl h
        · decide
      · decide
    · decide
theorem compact_len (n : Node) (i : Int) (b : ByteArray) : (compactR n i b).n.log.items.length < 2 ^ 62 := by
  unfold compactR
  split
  · rename_i h
    have := (fine_iff.1 h.1).l
    show (n.log.items.drop _).length < _
    rw [List.length_drop]; omega
  · decide
theorem new_len {me size : Int} {l : Log} (h : l.items.length < 2 ^ 62) : (newR me size l).n.log.items.length < 2 ^ 62 := by
  unfold newR
  split
  · exact h
  · decide
end Go.Proofs.Ytjpjiniclibgkaa.Sx

namespace Go.Proofs.Ytjpjiniclibgkaa.Sx
open Go

def zeroI : Item := ⟨0, ⟨0, 0, 0, 0, ByteArray.empty⟩⟩
/-- The item of a number in a log. -/
def entN (l : Log) (i : Int) : Option Item := if l.base < i ∧ i - l.base ≤ l.items.length then l.items[(i - l.base - 1).toNat]? else none
def entI (l : Log) (i : Int) : Item := match entN l i with
  | some x => x
  | none => zeroI
def entB (l : Log) (i : Int) : Bool := match entN l i with
  | some _ => true
  | none => false
def entrySpec : Spec where
  A := TermG
  R := fun ⟨l, A, _, i, m⟩ => Cells m A (itemsV l.items) ∧ l.items.length < 2 ^ 62 ∧ (0 ≤ i ∧ i ≤ 2 ^ 60) ∧ (0 ≤ l.base ∧ l.base ≤ 2 ^ 60)
  J := fun ⟨_, _, _, _, m⟩ => m
  args := fun ⟨l, A, c, i, _⟩ => [.g (logC l (.sl A l.items.length c)), .i .i64 i]
  h := fun _ => []
  nx := 0
  Bb := Unit
  C := fun _ _ => True
  out := fun ⟨l, _, _, i, _⟩ _ => .ret (.t [.g (itemC (entI l i)), .b (entB l i)])
  h2 := fun _ _ => []
  nx2 := 0
  md := 1
theorem ent_in {l : Log} {i : Int} {x : Item} (h : l.base < i ∧ i - l.base ≤ l.items.length) (hx : l.items[(i - l.base - 1).toNat]? = some x) : entI l i = x ∧ entB l i = true := by
  have : entN l i = some x := by unfold entN; rw [if_pos h, hx]
  unfold entI entB; rw [this]; exact ⟨rfl, rfl⟩
theorem ent_out {l : Log} {i : Int} (h : ¬ (l.base < i ∧ i - l.base ≤ l.items.length)) : entI l i = zeroI ∧ entB l i = false := by
  have : entN l i = none := by unfold entN; rw [if_neg h]
  unfold entI entB; rw [this]; exact ⟨rfl, rfl⟩
set_option maxRecDepth 100000 in
set_option maxHeartbeats 1600000 in
theorem entry_ok : SpecOk Try.prog 21 entrySpec := by
  refine spec_of_exec (fn := Try.f21) (c := Try.f21.body.getD .skip) (d := 0) (lv := ([0, 1, 2, 4, 5, 19])) (DP := DPx T1 (CPs S19) ([0, 1, 2, 4, 5, 19])) T1_ok S19_ok (fun B => DPx_ok T1_ok ord S19_ok B) entrySpec (by rfl) (by rfl) (by rfl) (fun _ => Nat.le_of_ble_eq_true (by kernel_rfl)) ?_
  rintro ⟨l, A, c, i, m⟩ ⟨hM, hl, ⟨hi1, hi2⟩, ⟨hb1, hb2⟩⟩
  have hw : IntKind.i64.wrap (i - l.base) = i - l.base := wrapi ⟨by omega, by omega⟩
  conv => whnf
  refine ⟨fun hout => ?_, fun hin => ?_⟩
  · rw [hw, ifor] at hout
    have hout : ¬ (l.base < i ∧ i - l.base ≤ l.items.length) := by
      simp only [Bool.or_eq_true, decide_eq_true_eq] at hout
      omega
    obtain ⟨h1, h2⟩ := ent_out hout
    refine ⟨(), trivial, ?_⟩
    conv => whnf
    repeat (first | exact trivial | exact fun _ _ h => h | (refine ⟨by first | exact ⟨rfl, rfl, rfl⟩ | rfl | exact ⟨rfl, rfl⟩ | exact ⟨rfl, fun _ _ => rfl⟩ | exact fun _ _ h => h | (intro _ _ h; cases h; done) | (rw [h1]; rfl) | (rw [h1]; done) | (rw [h2]; done), ?_⟩; conv => whnf))
  · rw [hw, ifor] at hin
    have hin : l.base < i ∧ i - l.base ≤ l.items.length := by
      simp only [Bool.or_eq_false_iff, decide_eq_false_iff_not] at hin
      omega
    have hE := getIx (xs := l.items) (i := (i - l.base - 1).toNat) (by omega)
    refine Exists.elim hE fun x hx => ?_
    obtain ⟨h1, h2⟩ := ent_in hin hx
    have hw2 : IntKind.i64.wrap (IntKind.i64.wrap (i - l.base) - 1) = i - l.base - 1 := by rw [hw]; exact wrapi ⟨by omega, by omega⟩
    have hrd := mem_item hM hx
    conv => whnf
    refine ⟨by rw [hw2]; exact ⟨by omega, by omega, hM.someX hx⟩, ?_⟩
    conv => whnf
    refine ⟨.g (itemC x), ⟨rfl, rfl, by rw [hw2]; exact hrd⟩, ?_⟩
    conv => whnf
    refine ⟨(), trivial, ?_⟩
    conv => whnf
    repeat (first | exact trivial | exact fun _ _ h => h | (refine ⟨by first | exact ⟨rfl, rfl, rfl⟩ | rfl | exact ⟨rfl, rfl⟩ | exact ⟨rfl, fun _ _ => rfl⟩ | exact fun _ _ h => h | (intro _ _ h; cases h; done) | (rw [h1]; rfl) | (rw [h1]; done) | (rw [h2]; done), ?_⟩; conv => whnf))
/-! ### the plain side -/
def gotK (k : Msg) : Msg := { k with kind := 4 }
theorem got_role (n : Node) (k : Msg) : (gotN n k).role = n.role := by
  unfold gotN
  split
  · rfl
  · split
    · rfl
    · split <;> rfl
theorem catch_none {n : Node} {k : Msg} (h : (stepR n (gotK k)).e ≠ 0 ∨ (stepR n (gotK k)).n.role ≠ 2) : (stepR n (gotK k)).ks = [] := by
  unfold stepR at h ⊢
  split
  · rename_i hg
    rw [if_pos hg] at h
    have hk : heardK (turnN n (gotK k)) (gotK k) = gotS (turnN n (gotK k)) (gotK k) := by
      unfold heardK; rw [if_neg (by show ¬ (4 : Int) = 1; decide), if_neg (by show ¬ (4 : Int) = 2; decide), if_pos (show (gotK k).kind = 4 from rfl)]
    rw [hk] at h ⊢
    rcases h with h | h
    · exact absurd rfl h
    · have h : (gotN (turnN n (gotK k)) (gotK k)).role ≠ 2 := h
      rw [got_role] at h
      show (if gotY _ _ = true then _ else _) = _
      have : gotY (turnN n (gotK k)) (gotK k) = false := by
        unfold gotY isLead
        have : ((turnN n (gotK k)).role == 2) = false := by simpa using h
        rw [this]; rfl
      rw [this]; rfl
  · rfl
/-- What a leader says to a node that told how far it is. -/
structure Caught (n : Node) (to : Int) : Prop where
  t1 : 0 ≤ to
  t2 : to < n.size
  fine : Fine n
  lo : n.mat to.toNat + 1 ≤ n.next to.toNat
  hi : n.next to.toNat ≤ lastI n + 1
theorem catch_one {n : Node} {k : Msg} (he : (stepR n (gotK k)).e = 0) (hr : (stepR n (gotK k)).n.role = 2) :
    (0 ≤ k.frm ∧ k.frm < 7) ∧ ((stepR n (gotK k)).ks = [] ∨ ((stepR n (gotK k)).ks = [feedN (stepR n (gotK k)).n k.frm] ∧ Caught (stepR n (gotK k)).n k.frm)) := by
  by_cases hg : goodB n = true ∧ soundB n (gotK k) = true
  · have hs : stepR n (gotK k) = gotS (turnN n (gotK k)) (gotK k) := by
      unfold stepR; rw [if_pos hg]
      unfold heardK; rw [if_neg (by show ¬ (4 : Int) = 1; decide), if_neg (by show ¬ (4 : Int) = 2; decide), if_pos (show (gotK k).kind = 4 from rfl)]
    have hf := fine_iff.1 hg.1
    have hh := heard_iff.1 hg.2
    have hfr : 0 ≤ k.frm ∧ k.frm < n.size := ⟨hh.f1, hh.f2⟩
    have hs2 := hf.s2
    refine ⟨⟨hfr.1, by omega⟩, ?_⟩
    rw [hs] at hr ⊢
    have hr : (gotN (turnN n (gotK k)) (gotK k)).role = 2 := hr
    rw [got_role] at hr
    have hnt : ¬ (gotK k).term > n.log.term := fun ht => by
      unfold turnN at hr
      rw [if_pos ht] at hr
      cases hr
    have ha : turnN n (gotK k) = n := by unfold turnN; rw [if_neg hnt]
    rw [ha]
    show (if gotY n (gotK k) = true then _ else _) = [] ∨ _
    cases hy : gotY n (gotK k) with
    | false => exact .inl rfl
    | true =>
      refine .inr ⟨?_, ?_⟩
      · show (if gotY n (gotK k) = true then _ else _) = _
        rw [if_pos hy]; rfl
      · show Caught (gotN n (gotK k)) k.frm
        have hgf := got_fine (k := gotK k) hf hfr.1 hfr.2 hh.a1
        have hsz : (gotN n (gotK k)).size = n.size := by
          unfold gotN
          split
          · rfl
          · split
            · rfl
            · split <;> rfl
        refine ⟨hfr.1, by rw [hsz]; exact hfr.2, hgf, ?_, ((hgf.rg.nx k.frm.toNat (by rw [hsz]; omega))).2⟩
        unfold gotY at hy
        simp only [Bool.and_eq_true] at hy
        obtain ⟨hl, hy⟩ := hy
        unfold gotN
        rw [hl]
        have hky : (gotK k).yes = k.yes := rfl
        have hkf : (gotK k).frm = k.frm := rfl
        cases hk : (gotK k).yes with
        | true =>
          show (if k.frm.toNat = (gotK k).frm.toNat then farI n (gotK k) else n.mat k.frm.toNat) + 1 ≤ (if k.frm.toNat = (gotK k).frm.toNat then max (n.next (gotK k).frm.toNat) (farI n (gotK k) + 1) else n.next k.frm.toNat)
          rw [if_pos (by rw [hkf]), if_pos (by rw [hkf])]
          omega
        | false =>
          rw [hk] at hy
          have hy : decide (backI n (gotK k) < n.next (gotK k).frm.toNat) = true := hy
          show (match decide (backI n (gotK k) < n.next (gotK k).frm.toNat) with | true => ({ n with next := fun j => if j = (gotK k).frm.toNat then backI n (gotK k) else n.next j } : Node) | false => n).mat k.frm.toNat + 1 ≤ (match decide (backI n (gotK k) < n.next (gotK k).frm.toNat) with | true => ({ n with next := fun j => if j = (gotK k).frm.toNat then backI n (gotK k) else n.next j } : Node) | false => n).next k.frm.toNat
          rw [hy]
          show n.mat k.frm.toNat + 1 ≤ (if k.frm.toNat = (gotK k).frm.toNat then backI n (gotK k) else n.next k.frm.toNat)
          rw [if_pos (by rw [hkf])]
          unfold backI
          rw [hkf]
          omega
  · unfold stepR at he
    rw [if_neg hg] at he
    cases he
/-- The entries that are sent are the log's. -/
theorem caught_items {n : Node} {to : Int} (hb : ¬ n.next to.toNat - 1 < n.log.base) {j : Nat} {x : Item} (hx : (feedN n to).items[j]? = some x) :
    entI n.log (n.next to.toNat - 1 + 1 + (j : Int)) = x ∧ entB n.log (n.next to.toNat - 1 + 1 + (j : Int)) = true := by
  have hi : (feedN n to).items = (n.log.items.drop (n.next to.toNat - 1 - n.log.base).toNat).take 16 := by
    show (feedK n to).items = _; unfold feedK; rw [if_neg hb]; rfl
  rw [hi, List.getElem?_take] at hx
  split at hx
  · rw [List.getElem?_drop] at hx
    have hlt := (List.getElem?_eq_some_iff.1 hx).1
    refine ent_in ⟨by omega, by omega⟩ ?_
    rw [← hx]; congr 1; omega
  · cases hx
theorem caught_known {n : Node} {to : Int} (h : Caught n to) (hb : ¬ n.next to.toNat - 1 < n.log.base) : (termAtN n.log (n.next to.toNat - 1)).2 = true := by
  have := h.hi
  rw [lastI_eq] at this
  by_cases he : n.next to.toNat - 1 = n.log.base
  · rw [termAtN_base he]
  · exact known_of (by omega) (by omega)
def S28 : List (Nat × Spec) := (21, entrySpec) :: S26
theorem S28_all : ∀ f s, findS S28 f = some s → SpecOk Try.prog f s := CP_cons S26_all entry_ok
theorem S28_ok : CPOk Try.prog (CPs S28) := CPs_ok S28_all
theorem beq_zero_len {os : List OMsg} (h : os.map (·.k) = []) : os.length = 0 := by have := congrArg List.length h; rwa [List.length_map] at this
end Go.Proofs.Ytjpjiniclibgkaa.Sx

namespace Go.Proofs.Ytjpjiniclibgkaa.Sx
open Go

structure NP where
  n : Node
  A : Option Addr
  c : Nat
def npV (y : NP) : List Value := dens η0 (nodeC y.n (.sl y.A y.n.log.items.length y.c))
def npsV (ys : List NP) : List Value := ys.flatMap npV
theorem npV_len (y : NP) : (npV y).length = 26 := rfl
theorem npsV_len (ys : List NP) : (npsV ys).length = ys.length * 26 := by
  unfold npsV
  induction ys with
  | nil => rfl
  | cons x r ih => rw [List.flatMap_cons, List.length_append, npV_len, ih, List.length_cons]; omega
theorem npsV_drop (ys : List NP) : ∀ k, (npsV ys).drop (k * 26) = npsV (ys.drop k) := by
  induction ys with
  | nil => intro k; simp [npsV]
  | cons x r ih =>
    intro k
    cases k with
    | zero => simp [npsV]
    | succ k =>
      have h6 : (k + 1) * 26 = (npV x).length + k * 26 := by rw [npV_len]; omega
      show (npV x ++ npsV r).drop _ = npsV (r.drop k)
      rw [h6, List.drop_append, Nat.add_sub_cancel_left, ih k, List.drop_eq_nil_of_le (Nat.le_add_right _ _), List.nil_append]
theorem np_at {ys : List NP} {i : Nat} {y : NP} (h : ys[i]? = some y) : npV y = ((npsV ys).drop (i * 26)).take 26 := by
  have hd : ys.drop i = y :: ys.drop (i + 1) := by
    rw [List.drop_eq_getElem_cons (List.getElem?_eq_some_iff.1 h).1, (List.getElem?_eq_some_iff.1 h).2]
  rw [npsV_drop, hd]
  rfl
theorem np_le {ys : List NP} {i : Nat} {y : NP} (h : ys[i]? = some y) : i * 26 + 26 ≤ (npsV ys).length := by
  have := (List.getElem?_eq_some_iff.1 h).1
  rw [npsV_len]; omega
theorem getNP {xs : List NP} {i : Nat} (h : i < xs.length) : ∃ x, xs[i]? = some x := ⟨_, List.getElem?_eq_getElem h⟩
structure StaysG where
  n : Node
  A : Option Addr
  c : Nat
  k : Msg
  D : Option Addr
  e : Nat
  x : Entry
  m : Mem
def lawStaysSpec : Spec where
  A := StaysG
  R := fun ⟨n, A, c, k, D, e, _, m⟩ => (Cells m A (itemsV n.log.items) ∧ n.log.items.length ≤ c ∧ n.log.items.length < 2 ^ 62) ∧ (Cells m D (itemsV k.items) ∧ k.items.length ≤ e ∧ k.items.length < 2 ^ 62)
  J := fun ⟨_, _, _, _, _, _, _, m⟩ => m
  args := fun ⟨n, A, c, k, D, e, x, _⟩ => [.g (nodeC n (.sl A n.log.items.length c)), .g (msgC k (.sl D k.items.length e)), .g (entryC x)]
  h := fun _ => []
  nx := 0
  Bb := Unit
  C := fun _ _ => True
  out := fun _ _ => .ret (.b true)
  h2 := fun _ _ => []
  nx2 := 0
structure OkNP (n : Node) (m : Mem) (y : NP) : Prop where
  f : Fine y.n
  o : Onto n y.n
  c : Cells m y.A (itemsV y.n.log.items)
  l : y.n.log.items.length ≤ y.c
theorem all2 {p : NP → Prop} {a b : NP} (h1 : p a) (h2 : p b) : ∀ y ∈ [a, b], p y := fun y h => by
  simp only [List.mem_cons, List.not_mem_nil, or_false] at h
  rcases h with h | h <;> (rw [h]; assumption)
theorem all3 {p : NP → Prop} {a b c : NP} (h1 : p a) (h2 : p b) (h3 : p c) : ∀ y ∈ [a, b, c], p y := fun y h => by
  simp only [List.mem_cons, List.not_mem_nil, or_false] at h
  rcases h with h | h | h <;> (rw [h]; assumption)
theorem all4 {p : NP → Prop} {a b c d : NP} (h1 : p a) (h2 : p b) (h3 : p c) (h4 : p d) : ∀ y ∈ [a, b, c, d], p y := fun y h => by
  simp only [List.mem_cons, List.not_mem_nil, or_false] at h
  rcases h with h | h | h | h <;> (rw [h]; assumption)
theorem step_heard {n : Node} {k : Msg} (he : (stepR n k).e = 0) : Heard n k := by
  by_cases hg : goodB n = true ∧ soundB n k = true
  · exact heard_iff.1 hg.2
  · unfold stepR at he
    rw [if_neg hg] at he
    cases he
end Go.Proofs.Ytjpjiniclibgkaa.Sx
