/- The law RaftCatches, walked. Then: The law RaftCatches holds of the program for every input: a leader that is told how far a node is never sends it what it has already, nor anything but what stands in its own log. Condition: none. -/
import Derived.Test.YtjpjiniclibgkaaPackJ
import Derived.Test.YtjpjiniclibgkaaPackI
namespace Go.Proofs.Ytjpjiniclibgkaa.Sx
open Go

def zeroI : Item := ⟨0, ⟨0, 0, 0, 0, ByteArray.empty⟩⟩
/-- The item of a number in a log. -/
def entN (l : Log) (i : Int) : Option Item := if l.base < i ∧ i - l.base ≤ l.items.length then l.items[(i - l.base - 1).toNat]? else none
def entI (l : Log) (i : Int) : Item := match entN l i with
  | some x => x
  | none => zeroI
def entB (l : Log) (i : Int) : Bool := match entN l i with
  | some _ => true
  | none => false
def entrySpec : Spec where
  A := TermG
  R := fun ⟨l, A, _, i, m⟩ => Cells m A (itemsV l.items) ∧ l.items.length < 2 ^ 62 ∧ (0 ≤ i ∧ i ≤ 2 ^ 60) ∧ (0 ≤ l.base ∧ l.base ≤ 2 ^ 60)
  J := fun ⟨_, _, _, _, m⟩ => m
  args := fun ⟨l, A, c, i, _⟩ => [.g (logC l (.sl A l.items.length c)), .i .i64 i]
  h := fun _ => []
  nx := 0
  Bb := Unit
  C := fun _ _ => True
  out := fun ⟨l, _, _, i, _⟩ _ => .ret (.t [.g (itemC (entI l i)), .b (entB l i)])
  h2 := fun _ _ => []
  nx2 := 0
  md := 1
theorem ent_in {l : Log} {i : Int} {x : Item} (h : l.base < i ∧ i - l.base ≤ l.items.length) (hx : l.items[(i - l.base - 1).toNat]? = some x) : entI l i = x ∧ entB l i = true := by
  have : entN l i = some x := by unfold entN; rw [if_pos h, hx]
  unfold entI entB; rw [this]; exact ⟨rfl, rfl⟩
theorem ent_out {l : Log} {i : Int} (h : ¬ (l.base < i ∧ i - l.base ≤ l.items.length)) : entI l i = zeroI ∧ entB l i = false := by
  have : entN l i = none := by unfold entN; rw [if_neg h]
  unfold entI entB; rw [this]; exact ⟨rfl, rfl⟩
set_option maxRecDepth 100000 in
set_option maxHeartbeats 1600000 in
theorem entry_ok : SpecOk Try.prog 21 entrySpec := by
  refine spec_of_exec (fn := Try.f21) (c := Try.f21.body.getD .skip) (d := 0) (lv := ([0, 1, 2, 4, 5, 19])) (DP := DPx T1 (CPs S19) ([0, 1, 2, 4, 5, 19])) T1_ok S19_ok (fun B => DPx_ok T1_ok ord S19_ok B) entrySpec (by rfl) (by rfl) (by rfl) (fun _ => Nat.le_of_ble_eq_true (by kernel_rfl)) ?_
  rintro ⟨l, A, c, i, m⟩ ⟨hM, hl, ⟨hi1, hi2⟩, ⟨hb1, hb2⟩⟩
  have hw : IntKind.i64.wrap (i - l.base) = i - l.base := wrapi ⟨by omega, by omega⟩
  conv => whnf
  refine ⟨fun hout => ?_, fun hin => ?_⟩
  · rw [hw, ifor] at hout
    have hout : ¬ (l.base < i ∧ i - l.base ≤ l.items.length) := by
      simp only [Bool.or_eq_true, decide_eq_true_eq] at hout
      omega
    obtain ⟨h1, h2⟩ := ent_out hout
    refine ⟨(), trivial, ?_⟩
    conv => whnf
    repeat (first | exact trivial | exact fun _ _ h => h | (refine ⟨by first | exact ⟨rfl, rfl, rfl⟩ | rfl | exact ⟨rfl, rfl⟩ | exact ⟨rfl, fun _ _ => rfl⟩ | exact fun _ _ h => h | (intro _ _ h; cases h; done) | (rw [h1]; rfl) | (rw [h1]; done) | (rw [h2]; done), ?_⟩; conv => whnf))
  · rw [hw, ifor] at hin
    have hin : l.base < i ∧ i - l.base ≤ l.items.length := by
      simp only [Bool.or_eq_false_iff, decide_eq_false_iff_not] at hin
      omega
    have hE := getIx (xs := l.items) (i := (i - l.base - 1).toNat) (by omega)
    refine Exists.elim hE fun x hx => ?_
    obtain ⟨h1, h2⟩ := ent_in hin hx
    have hw2 : IntKind.i64.wrap (IntKind.i64.wrap (i - l.base) - 1) = i - l.base - 1 := by rw [hw]; exact wrapi ⟨by omega, by omega⟩
    have hrd := mem_item hM hx
    conv => whnf
    refine ⟨by rw [hw2]; exact ⟨by omega, by omega, hM.someX hx⟩, ?_⟩
    conv => whnf
    refine ⟨.g (itemC x), ⟨rfl, rfl, by rw [hw2]; exact hrd⟩, ?_⟩
    conv => whnf
    refine ⟨(), trivial, ?_⟩
    conv => whnf
    repeat (first | exact trivial | exact fun _ _ h => h | (refine ⟨by first | exact ⟨rfl, rfl, rfl⟩ | rfl | exact ⟨rfl, rfl⟩ | exact ⟨rfl, fun _ _ => rfl⟩ | exact fun _ _ h => h | (intro _ _ h; cases h; done) | (rw [h1]; rfl) | (rw [h1]; done) | (rw [h2]; done), ?_⟩; conv => whnf))
/-! ### the plain side -/
def gotK (k : Msg) : Msg := { k with kind := 4 }
theorem got_role (n : Node) (k : Msg) : (gotN n k).role = n.role := by
  unfold gotN
  split
  · rfl
  · split
    · rfl
    · split <;> rfl
theorem catch_none {n : Node} {k : Msg} (h : (stepR n (gotK k)).e ≠ 0 ∨ (stepR n (gotK k)).n.role ≠ 2) : (stepR n (gotK k)).ks = [] := by
  unfold stepR at h ⊢
  split
  · rename_i hg
    rw [if_pos hg] at h
    have hk : heardK (turnN n (gotK k)) (gotK k) = gotS (turnN n (gotK k)) (gotK k) := by
      unfold heardK; rw [if_neg (by show ¬ (4 : Int) = 1; decide), if_neg (by show ¬ (4 : Int) = 2; decide), if_pos (show (gotK k).kind = 4 from rfl)]
    rw [hk] at h ⊢
    rcases h with h | h
    · exact absurd rfl h
    · have h : (gotN (turnN n (gotK k)) (gotK k)).role ≠ 2 := h
      rw [got_role] at h
      show (if gotY _ _ = true then _ else _) = _
      have : gotY (turnN n (gotK k)) (gotK k) = false := by
        unfold gotY isLead
        have : ((turnN n (gotK k)).role == 2) = false := by simpa using h
        rw [this]; rfl
      rw [this]; rfl
  · rfl
/-- What a leader says to a node that told how far it is. -/
structure Caught (n : Node) (to : Int) : Prop where
  t1 : 0 ≤ to
  t2 : to < n.size
  fine : Fine n
  lo : n.mat to.toNat + 1 ≤ n.next to.toNat
  hi : n.next to.toNat ≤ lastI n + 1
theorem catch_one {n : Node} {k : Msg} (he : (stepR n (gotK k)).e = 0) (hr : (stepR n (gotK k)).n.role = 2) :
    (0 ≤ k.frm ∧ k.frm < 7) ∧ ((stepR n (gotK k)).ks = [] ∨ ((stepR n (gotK k)).ks = [feedN (stepR n (gotK k)).n k.frm] ∧ Caught (stepR n (gotK k)).n k.frm)) := by
  by_cases hg : goodB n = true ∧ soundB n (gotK k) = true
  · have hs : stepR n (gotK k) = gotS (turnN n (gotK k)) (gotK k) := by
      unfold stepR; rw [if_pos hg]
      unfold heardK; rw [if_neg (by show ¬ (4 : Int) = 1; decide), if_neg (by show ¬ (4 : Int) = 2; decide), if_pos (show (gotK k).kind = 4 from rfl)]
    have hf := fine_iff.1 hg.1
    have hh := heard_iff.1 hg.2
    have hfr : 0 ≤ k.frm ∧ k.frm < n.size := ⟨hh.f1, hh.f2⟩
    have hs2 := hf.s2
    refine ⟨⟨hfr.1, by omega⟩, ?_⟩
    rw [hs] at hr ⊢
    have hr : (gotN (turnN n (gotK k)) (gotK k)).role = 2 := hr
    rw [got_role] at hr
    have hnt : ¬ (gotK k).term > n.log.term := fun ht => by
      unfold turnN at hr
      rw [if_pos ht] at hr
      cases hr
    have ha : turnN n (gotK k) = n := by unfold turnN; rw [if_neg hnt]
    rw [ha]
    show (if gotY n (gotK k) = true then _ else _) = [] ∨ _
    cases hy : gotY n (gotK k) with
    | false => exact .inl rfl
    | true =>
      refine .inr ⟨?_, ?_⟩
      · show (if gotY n (gotK k) = true then _ else _) = _
        rw [if_pos hy]; rfl
      · show Caught (gotN n (gotK k)) k.frm
        have hgf := got_fine (k := gotK k) hf hfr.1 hfr.2 hh.a1
        have hsz : (gotN n (gotK k)).size = n.size := by
          unfold gotN
          split
          · rfl
          · split
            · rfl
            · split <;> rfl
        refine ⟨hfr.1, by rw [hsz]; exact hfr.2, hgf, ?_, ((hgf.rg.nx k.frm.toNat (by rw [hsz]; omega))).2⟩
        unfold gotY at hy
        simp only [Bool.and_eq_true] at hy
        obtain ⟨hl, hy⟩ := hy
        unfold gotN
        rw [hl]
        have hky : (gotK k).yes = k.yes := rfl
        have hkf : (gotK k).frm = k.frm := rfl
        cases hk : (gotK k).yes with
        | true =>
          show (if k.frm.toNat = (gotK k).frm.toNat then farI n (gotK k) else n.mat k.frm.toNat) + 1 ≤ (if k.frm.toNat = (gotK k).frm.toNat then max (n.next (gotK k).frm.toNat) (farI n (gotK k) + 1) else n.next k.frm.toNat)
          rw [if_pos (by rw [hkf]), if_pos (by rw [hkf])]
          omega
        | false =>
          rw [hk] at hy
          have hy : decide (backI n (gotK k) < n.next (gotK k).frm.toNat) = true := hy
          show (match decide (backI n (gotK k) < n.next (gotK k).frm.toNat) with | true => ({ n with next := fun j => if j = (gotK k).frm.toNat then backI n (gotK k) else n.next j } : Node) | false => n).mat k.frm.toNat + 1 ≤ (match decide (backI n (gotK k) < n.next (gotK k).frm.toNat) with | true => ({ n with next := fun j => if j = (gotK k).frm.toNat then backI n (gotK k) else n.next j } : Node) | false => n).next k.frm.toNat
          rw [hy]
          show n.mat k.frm.toNat + 1 ≤ (if k.frm.toNat = (gotK k).frm.toNat then backI n (gotK k) else n.next k.frm.toNat)
          rw [if_pos (by rw [hkf])]
          unfold backI
          rw [hkf]
          omega
  · unfold stepR at he
    rw [if_neg hg] at he
    cases he
/-- The entries that are sent are the log's. -/
theorem caught_items {n : Node} {to : Int} (hb : ¬ n.next to.toNat - 1 < n.log.base) {j : Nat} {x : Item} (hx : (feedN n to).items[j]? = some x) :
    entI n.log (n.next to.toNat - 1 + 1 + (j : Int)) = x ∧ entB n.log (n.next to.toNat - 1 + 1 + (j : Int)) = true := by
  have hi : (feedN n to).items = (n.log.items.drop (n.next to.toNat - 1 - n.log.base).toNat).take 16 := by
    show (feedK n to).items = _; unfold feedK; rw [if_neg hb]; rfl
  rw [hi, List.getElem?_take] at hx
  split at hx
  · rw [List.getElem?_drop] at hx
    have hlt := (List.getElem?_eq_some_iff.1 hx).1
    refine ent_in ⟨by omega, by omega⟩ ?_
    rw [← hx]; congr 1; omega
  · cases hx
theorem caught_known {n : Node} {to : Int} (h : Caught n to) (hb : ¬ n.next to.toNat - 1 < n.log.base) : (termAtN n.log (n.next to.toNat - 1)).2 = true := by
  have := h.hi
  rw [lastI_eq] at this
  by_cases he : n.next to.toNat - 1 = n.log.base
  · rw [termAtN_base he]
  · exact known_of (by omega) (by omega)
def S28 : List (Nat × Spec) := (21, entrySpec) :: S26
theorem S28_all : ∀ f s, findS S28 f = some s → SpecOk Try.prog f s := CP_cons S26_all entry_ok
theorem S28_ok : CPOk Try.prog (CPs S28) := CPs_ok S28_all
theorem beq_zero_len {os : List OMsg} (h : os.map (·.k) = []) : os.length = 0 := by have := congrArg List.length h; rwa [List.length_map] at this
set_option maxRecDepth 100000 in
set_option maxHeartbeats 40000000 in
theorem lawCatches_ok : SpecOk Try.prog 4 lawStepsSpec := by
  refine spec_of_exec (fn := Try.f4) (c := Try.f4.body.getD .skip) (d := 2) (lv := ([0, 1, 2, 3, 4, 5, 6, 7, 9, 10, 11, 12, 13, 14, 15, 17, 25, 40, 44, 45, 46, 47, 67, 70, 92, 130, 132, 133, 134, 135, 156])) (DP := DPx T1 (CPs S28) ([0, 1, 2, 3, 4, 5, 6, 7, 9, 10, 11, 12, 13, 14, 15, 17, 25, 40, 44, 45, 46, 47, 67, 70, 92, 130, 132, 133, 134, 135, 156])) T1_ok S28_ok (fun B => DPx_ok T1_ok ord S28_ok B) lawStepsSpec (by rfl) (by rfl) (by rfl) (fun _ => Nat.le_of_ble_eq_true (by kernel_rfl)) ?_
  rintro ⟨n, A, c, k, D, e, m⟩ ⟨⟨hM, hcap, hl⟩, ⟨hD, hde, hkl⟩⟩
  conv => whnf
  refine ⟨m, trivial, ?_⟩
  conv => whnf
  repeat (first | exact trivial | (refine ⟨by first | exact ⟨rfl, rfl, rfl⟩ | rfl | exact ⟨rfl, rfl⟩ | exact ⟨rfl, fun _ _ => rfl⟩ | exact fun _ _ h => h | (intro _ _ h; cases h; done), ?_⟩; conv => whnf))
  intro _ _
  conv => whnf
  refine ⟨fun h => (by cases h), fun _ => ?_⟩
  conv => whnf
  refine ⟨⟨n, A, c, k, D, e, m⟩, ⟨⟨hM, hl⟩, ⟨hD, hkl⟩⟩, ?_⟩
  conv => whnf
  repeat (first | exact trivial | (refine ⟨by first | exact ⟨rfl, rfl, rfl⟩ | rfl | exact ⟨rfl, rfl⟩ | exact ⟨rfl, fun _ _ => rfl⟩ | exact fun _ _ h => h | (intro _ _ h; cases h; done), ?_⟩; conv => whnf))
  intro (hv : Bool) _
  conv => whnf
  refine ⟨fun _ => ?_, fun hgo => ?_⟩
  · refine ⟨(), trivial, ?_⟩
    conv => whnf
    repeat (first | exact trivial | exact fun _ _ h => h | (refine ⟨by first | exact ⟨rfl, rfl, rfl⟩ | rfl | exact ⟨rfl, rfl⟩ | exact ⟨rfl, fun _ _ => rfl⟩ | exact fun _ _ h => h | (intro _ _ h; cases h; done), ?_⟩; conv => whnf))
  have hro : n.role = 2 := by
    rw [ifor] at hgo
    simp only [Bool.or_eq_false_iff] at hgo
    simpa using hgo.2
  have hnone := catch_none (n := n) (k := k)
  have hone := catch_one (n := n) (k := k)
  conv => whnf
  refine ⟨⟨n, A, c, gotK k, D, e, m⟩, ⟨⟨hM, hcap, hl⟩, ⟨hD, hde, hkl⟩⟩, ?_⟩
  conv => whnf
  repeat (first | exact trivial | (refine ⟨by first | exact ⟨rfl, rfl, rfl⟩ | rfl | exact ⟨rfl, rfl⟩ | exact ⟨rfl, fun _ _ => rfl⟩ | exact fun _ _ h => h | (intro _ _ h; cases h; done), ?_⟩; conv => whnf))
  rintro ⟨n1, A1, c1, os1, O1, oc1, m1⟩ ⟨hn1, hk1, ⟨hc1, hle1⟩, ⟨ho1, hoc1⟩, hs1, hx1⟩ m2 h02 h12
  have hn1 : n1 = (stepR n (gotK k)).n := hn1
  have hk1 : os1.map (·.k) = (stepR n (gotK k)).ks := hk1
  conv => whnf
  refine ⟨fun hbad => ?_, fun hfine => ?_⟩
  · have hbad : (stepR n (gotK k)).e ≠ 0 ∨ (stepR n (gotK k)).n.role ≠ 2 := by
      rw [ifor] at hbad
      simp only [Bool.or_eq_true] at hbad
      rw [← hn1]
      rcases hbad with h | h
      · exact .inl (by simpa using h)
      · exact .inr (by simpa using h)
    have hlen : os1.length = 0 := beq_zero_len (hk1.trans (hnone hbad))
    refine ⟨(), trivial, ?_⟩
    conv => whnf
    repeat (first | exact trivial | exact fun _ _ h => h | (refine ⟨by first | exact ⟨rfl, rfl, rfl⟩ | rfl | exact ⟨rfl, rfl⟩ | exact ⟨rfl, fun _ _ => rfl⟩ | exact fun _ _ h => h | (intro _ _ h; cases h; done) | (show ((os1.length : Int) == 0) = true; rw [hlen]; rfl), ?_⟩; conv => whnf))
    exact h02
  · have hfine : (stepR n (gotK k)).e = 0 ∧ (stepR n (gotK k)).n.role = 2 := by
      rw [ifor] at hfine
      simp only [Bool.or_eq_false_iff] at hfine
      rw [← hn1]
      exact ⟨by simpa using hfine.1, by simpa using hfine.2⟩
    obtain ⟨hfr, hcase⟩ := hone hfine.1 hfine.2
    rw [← hn1, ← hk1] at hcase
    have hom := ho1.ext h12
    have hcm := hc1.ext h12
    have hsm := hs1.ext h12
    obtain ⟨s, hs⟩ : ∃ s, s = os1.length := ⟨_, rfl⟩
    conv => whnf
    refine ⟨Nat, fun i => i ≤ s, fun i => ⟨159, [⟨3, [], .p 1 0⟩, ⟨5, [], .p 2 0⟩, ⟨6, [], .sl O1 s oc1⟩, ⟨44, [], .sl O1 s oc1⟩, ⟨45, [], .i .i64 s⟩, ⟨46, [], .i .i64 i⟩], [], [(1, .st 29 (msgC (gotK k) (.sl D k.items.length e))), (2, .st 27 (nodeC n1 (.sl A1 n1.log.items.length c1)))], 3⟩, fun _ => m2, fun i => s - i, ⟨0, rfl, Nat.zero_le _, ?_⟩, ?_⟩
    conv => whnf
    · conv => whnf
      repeat (first | exact trivial | (refine ⟨by first | exact ⟨rfl, rfl, rfl⟩ | rfl | exact ⟨rfl, rfl⟩ | exact ⟨rfl, fun _ _ => rfl⟩ | exact fun _ _ h => h | (intro _ _ h; cases h; done) | exact ⟨rfl, hs.symm, rfl⟩ | exact congrArg Int.ofNat hs.symm, ?_⟩; conv => whnf))
    · intro i hi
      refine ⟨fun hlt => ?_, fun hge => ?_⟩
      conv => whnf
      · have hlt : i < s := by have h2 : (i : Int) < (s : Int) := of_decide_eq_true hlt; omega
        have hE := getIm (xs := os1) (Nat.lt_of_lt_of_eq hlt hs)
        refine Exists.elim hE fun o ho => ?_
        have hdec : s = 1 ∧ o.k = feedN n1 k.frm ∧ Caught n1 k.frm := by
          rcases hcase with h | ⟨h, hc⟩
          · have := beq_zero_len h; omega
          · have h1 : os1.length = 1 := by have := congrArg List.length h; rwa [List.length_map] at this
            have hi0 : i = 0 := by omega
            subst hi0
            have h2 : (os1.map (·.k))[0]? = some o.k := by rw [List.getElem?_map, ho]; rfl
            rw [h] at h2
            exact ⟨by omega, (Option.some.inj h2).symm, hc⟩
        obtain ⟨hs1', hok, hcau⟩ := hdec
        have hoin : o ∈ os1 := List.mem_of_getElem? ho
        have hto : o.k.to = k.frm := by rw [hok]; rfl
        have hterm : o.k.term = n1.log.term := by rw [hok]; rfl
        have hslen : (s : Int) = 1 := by rw [hs1']; rfl
        have hfin := hcau.fine
        have hb1 := hfin.b1
        have hb2 := hfin.b2
        have hl256 := hfin.l
        have hhi := hcau.hi
        rw [lastI_eq] at hhi
        refine ⟨⟨Int.natCast_nonneg _, by show (i : Int) < (s : Int); omega, hom.someM ho⟩, ?_⟩
        conv => whnf
        refine ⟨.g (msgC o.k (.sl o.A o.k.items.length o.c)), ⟨rfl, rfl, mem_msg hom ho⟩, ?_⟩
        conv => whnf
        refine ⟨fun h => absurd h (by simp [hto, hterm, hslen, gotK]), fun _ => ?_⟩
        conv => whnf
        by_cases hb : n1.next k.frm.toNat - 1 < n1.log.base
        · have hfk : feedK n1 k.frm = (mkM 5 n1.log.base n1.log.baseTerm 0 false [] n1.log.book) := by unfold feedK; rw [if_pos hb]
          have hkind : o.k.kind = 5 := by rw [hok]; show (feedK n1 k.frm).kind = 5; rw [hfk]; rfl
          have hlast : o.k.last = n1.log.base := by rw [hok]; show (feedK n1 k.frm).last = _; rw [hfk]; rfl
          have hlt2 : o.k.lastTerm = n1.log.baseTerm := by rw [hok]; show (feedK n1 k.frm).lastTerm = _; rw [hfk]; rfl
          have hbook : o.k.book = n1.log.book := by rw [hok]; show (feedK n1 k.frm).book = _; rw [hfk]; rfl
          refine ⟨fun _ => ?_, fun h => absurd h (by simp [hkind])⟩
          conv => whnf
          refine ⟨fun h => absurd h (by simp [hlast, hlt2, hbook]), fun _ => ?_⟩
          conv => whnf
          refine ⟨i + 1, rfl, ⟨hlt, by show s - (i + 1) < s - i; omega⟩, ?_⟩
          conv => whnf
          repeat (first | exact trivial | (refine ⟨by first | exact ⟨rfl, rfl, rfl⟩ | rfl | exact ⟨rfl, rfl⟩ | exact ⟨rfl, fun _ _ => rfl⟩ | exact fun _ _ h => h | (intro _ _ h; cases h; done) | exact wrapi_succ (by omega), ?_⟩; conv => whnf))
        · have hfk : feedK n1 k.frm = mkM 3 (n1.next k.frm.toNat - 1) (termAtN n1.log (n1.next k.frm.toNat - 1)).1 n1.commit false ((n1.log.items.drop (n1.next k.frm.toNat - 1 - n1.log.base).toNat).take 16) ByteArray.empty := by unfold feedK; rw [if_neg hb]
          have hkind : o.k.kind = 3 := by rw [hok]; show (feedK n1 k.frm).kind = 3; rw [hfk]; rfl
          have hlast : o.k.last = n1.next k.frm.toNat - 1 := by rw [hok]; show (feedK n1 k.frm).last = _; rw [hfk]; rfl
          have hlt2 : o.k.lastTerm = (termAtN n1.log o.k.last).1 := by rw [hlast, hok]; show (feedK n1 k.frm).lastTerm = _; rw [hfk]; rfl
          have hcom : o.k.commit = n1.commit := by rw [hok]; show (feedK n1 k.frm).commit = _; rw [hfk]; rfl
          have hkn := caught_known hcau hb
          rw [← hlast] at hkn
          have hlo : n1.mat k.frm.toNat ≤ o.k.last := by have := hcau.lo; omega
          have hent : ∀ (j : Nat) (x : Item), o.k.items[j]? = some x → entI n1.log (o.k.last + 1 + (j : Int)) = x ∧ entB n1.log (o.k.last + 1 + (j : Int)) = true := fun j x hx => by
            rw [hlast]; exact caught_items hb (by rw [← hok]; exact hx)
          have hil : o.k.items.length ≤ 16 := by rw [hok]; exact feed_len n1 k.frm
          refine ⟨fun h => absurd h (by simp [hkind]), fun _ => ?_⟩
          conv => whnf
          refine ⟨⟨n1.log, A1, c1, o.k.last, m2⟩, ⟨hcm, by show n1.log.items.length < 2 ^ 62; omega, ⟨by omega, by omega⟩, ⟨by omega, by omega⟩⟩, ?_⟩
          conv => whnf
          repeat (first | exact trivial | (refine ⟨by first | exact ⟨rfl, rfl, rfl⟩ | rfl | exact ⟨rfl, rfl⟩ | exact ⟨rfl, fun _ _ => rfl⟩ | exact fun _ _ h => h | (intro _ _ h; cases h; done), ?_⟩; conv => whnf))
          intro _ _
          conv => whnf
          refine Or.inr ⟨[], sc4_18, by kernel_rfl, ?_⟩
          conv => whnf
          have hix : 0 ≤ (gotK k).frm ∧ (gotK k).frm < ((7 : Nat) : Int) := ⟨hfr.1, by show k.frm < 7; omega⟩
          have hix2 : (gotK k).frm.toNat < 7 := by show k.frm.toNat < 7; omega
          have hmatf : decide (o.k.last < n1.mat (gotK k).frm.toNat) = false := decide_eq_false (by show ¬ o.k.last < n1.mat k.frm.toNat; omega)
          repeat (first | exact trivial | (refine ⟨by first | exact ⟨rfl, rfl, rfl⟩ | rfl | exact ⟨rfl, rfl⟩ | exact ⟨rfl, fun _ _ => rfl⟩ | exact fun _ _ h => h | (intro _ _ h; cases h; done) | exact fun _ => hix | exact fun _ => hix2, ?_⟩; conv => whnf))
          refine ⟨fun h => absurd h (by simp [hkind, hmatf, hkn, hlt2, hcom]), fun _ => ?_⟩
          obtain ⟨t, ht⟩ : ∃ t, t = o.k.items.length := ⟨_, rfl⟩
          have hoi := (hsm o hoin).1
          conv => whnf
          refine ⟨Nat, fun j => j ≤ t, fun j => ⟨159, [⟨3, [], .p 1 0⟩, ⟨5, [], .p 2 0⟩, ⟨6, [], .sl O1 s oc1⟩, ⟨44, [], .sl O1 s oc1⟩, ⟨45, [], .i .i64 s⟩, ⟨46, [], .i .i64 i⟩, ⟨9, [], .p 3 0⟩, ⟨132, [], .sl o.A t o.c⟩, ⟨133, [], .i .i64 t⟩, ⟨134, [], .i .i64 j⟩], [], [(3, .st 29 (msgC o.k (.sl o.A o.k.items.length o.c))), (1, .st 29 (msgC (gotK k) (.sl D k.items.length e))), (2, .st 27 (nodeC n1 (.sl A1 n1.log.items.length c1)))], 4⟩, fun _ => m2, fun j => t - j, ⟨0, rfl, Nat.zero_le _, ?_⟩, ?_⟩
          conv => whnf
          · conv => whnf
            repeat (first | exact trivial | (refine ⟨by first | exact ⟨rfl, rfl, rfl⟩ | rfl | exact ⟨rfl, rfl⟩ | exact ⟨rfl, fun _ _ => rfl⟩ | exact fun _ _ h => h | (intro _ _ h; cases h; done) | exact ⟨rfl, ht.symm, rfl⟩ | exact congrArg Int.ofNat ht.symm, ?_⟩; conv => whnf))
          · intro j hj
            refine ⟨fun hlt3 => ?_, fun hge3 => ?_⟩
            conv => whnf
            · have hlt3 : j < t := by have h2 : (j : Int) < (t : Int) := of_decide_eq_true hlt3; omega
              have hE := getIx (xs := o.k.items) (Nat.lt_of_lt_of_eq hlt3 ht)
              refine Exists.elim hE fun y hy => ?_
              obtain ⟨he1, he2⟩ := hent j y hy
              have hw2 : IntKind.i64.wrap (IntKind.i64.wrap (o.k.last + 1) + (j : Int)) = o.k.last + 1 + (j : Int) := by rw [wrapi (x := o.k.last + 1) ⟨by omega, by omega⟩, wrapi (x := o.k.last + 1 + (j : Int)) ⟨by omega, by omega⟩]
              refine ⟨⟨Int.natCast_nonneg _, by show (j : Int) < (t : Int); omega, hoi.someX hy⟩, ?_⟩
              conv => whnf
              refine ⟨.g (itemC y), ⟨rfl, rfl, mem_item hoi hy⟩, ?_⟩
              conv => whnf
              refine ⟨⟨n1.log, A1, c1, o.k.last + 1 + (j : Int), m2⟩, ⟨hcm, by show n1.log.items.length < 2 ^ 62; omega, ⟨by omega, by omega⟩, ⟨by omega, by omega⟩⟩, ?_⟩
              conv => whnf
              repeat (first | exact trivial | (refine ⟨by first | exact ⟨rfl, rfl, rfl⟩ | rfl | exact ⟨rfl, rfl⟩ | exact ⟨rfl, fun _ _ => rfl⟩ | exact fun _ _ h => h | (intro _ _ h; cases h; done) | exact hw2 | exact hw2.symm, ?_⟩; conv => whnf))
              intro _ _
              conv => whnf
              refine ⟨fun h => ?_, fun _ => ?_⟩
              · rw [he1, he2, if_neg (show ¬ ((!true) = true) by decide)] at h
                exact (yes_not ⟨rfl, ⟨rfl, rfl, rfl, rfl, rfl, trivial⟩, trivial⟩ h).elim
              conv => whnf
              refine ⟨j + 1, rfl, ⟨hlt3, by show t - (j + 1) < t - j; omega⟩, ?_⟩
              conv => whnf
              repeat (first | exact trivial | (refine ⟨by first | exact ⟨rfl, rfl, rfl⟩ | rfl | exact ⟨rfl, rfl⟩ | exact ⟨rfl, fun _ _ => rfl⟩ | exact fun _ _ h => h | (intro _ _ h; cases h; done) | exact wrapi_succ (by omega), ?_⟩; conv => whnf))
            · conv => whnf
              refine ⟨i + 1, rfl, ⟨hlt, by show s - (i + 1) < s - i; omega⟩, ?_⟩
              conv => whnf
              repeat (first | exact trivial | (refine ⟨by first | exact ⟨rfl, rfl, rfl⟩ | rfl | exact ⟨rfl, rfl⟩ | exact ⟨rfl, fun _ _ => rfl⟩ | exact fun _ _ h => h | (intro _ _ h; cases h; done) | exact wrapi_succ (by omega), ?_⟩; conv => whnf))
      · have hge : i = s := by have h2 : ¬ (i : Int) < (s : Int) := of_decide_eq_false hge; omega
        refine ⟨(), trivial, ?_⟩
        conv => whnf
        repeat (first | exact trivial | exact fun _ _ h => h | (refine ⟨by first | exact ⟨rfl, rfl, rfl⟩ | rfl | exact ⟨rfl, rfl⟩ | exact ⟨rfl, fun _ _ => rfl⟩ | exact fun _ _ h => h | (intro _ _ h; cases h; done), ?_⟩; conv => whnf))
        exact h02
end Go.Proofs.Ytjpjiniclibgkaa.Sx

namespace Go.Proofs.Ytjpjiniclibgkaa.Catches
open Go Go.ChangeShapes Go.WideShapes Go.ChangeAt Go.RowKit Sx

theorem contract (H : Type) (enc : TypeId × Value → H) (W : World) (base : Nat) (args : Array Value) (ds gs : List (DataW H)) (before : List MemPlace)
    (hval : ∀ (j : Nat) t v, Try.f4.params[j]? = some t → args[j]? = some v → Value.okWide Try.prog W .any base t v)
    (hW : DataW.Whole enc Try.prog Try.f4.params.toList Rows.raftCatchesSpec.vars false W args.toList ds gs before) (hw : (DataW.weightsEach Try.prog (Try.f4.params.toList ++ (OpenSpec.ofChange Rows.raftCatchesSpec).bare.plain.varTypes Try.prog) (ds ++ gs)).all (· ≤ reachBytes) = true) :
    Calls Try.prog 4 args W fun e W' => ∃ v, e = .returned v ∧ Rows.raftCatchesSpec.post enc Try.prog Try.f4 false true false false W args v W' := by
  have hW' := hW
  obtain ⟨p, q, hA0, hV, rfl, hfz, hnd⟩ := hW
  have hA : DataW.TrodAll enc Try.prog W 0 (fun _ => true) true Try.f4.params.toList args.toList ds p := hA0
  rw [Try.params4] at hA hval
  obtain ⟨v0, vs0, d0, ds0, p0, q0, hargs, rfl, rfl, h0, r0⟩ := trodAll_cons hA
  obtain ⟨v1, vs1, d1, ds1, p1, q1, rfl, rfl, rfl, h1, r1⟩ := trodAll_cons r0
  obtain ⟨rfl, rfl, rfl⟩ := trodAll_nil r1
  obtain rfl : args = #[v0, v1] := by cases args; simp_all
  rw [Try.params4] at hw
  simp only [List.cons_append, List.nil_append, DataW.weightsEach, List.all_append, Bool.and_eq_true] at hw
  obtain ⟨cs0, rfl⟩ := agg_of und27 (hval 0 27 v0 rfl rfl)
  obtain ⟨fu0, ht0⟩ := h0
  obtain ⟨n0, A0, c0, he0, hM0, hc0, hl0, hb0, hm0, hs0⟩ := open_node ht0 hw.1
  obtain ⟨cs1, rfl⟩ := agg_of und29 (hval 1 29 v1 rfl rfl)
  obtain ⟨fu1, ht1⟩ := h1
  obtain ⟨k1, A1, c1, he1, hM1, hc1, hl1⟩ := open_msg ht1 hw.2.1
  refine (law_calls lawCatches_ok ⟨n0, A0, c0, k1, A1, c1, allMem W⟩ ⟨⟨hM0, hc0, hl0⟩, ⟨hM1, hc1, hl1⟩⟩ (fun _ _ h => h) rfl (by have hz0 := arr_of (cs := cs0) he0; have hz1 := arr_of (cs := cs1) he1; rw [hz0, hz1]; rfl) fun _ => rfl).mono fun e W' ⟨he, hbl⟩ => ⟨_, he, ?_⟩
  exact law_post hbl laidOut (by rw [Try.params4]; intro t ht; simp only [List.mem_cons, List.not_mem_nil, or_false] at ht; rcases ht with rfl | rfl <;> exact ⟨by kernel_rfl, of_decide_eq_true (by kernel_rfl)⟩) (by kernel_rfl) und4 rfl
    (fun ds hd => by rw [Try.params4] at hd; match ds, hd with | [_, _], _ => rfl) hW'

theorem reads (os : Os) {H : Type} (enc : TypeId × Value → H) : ∃ places, DataW.whole enc Try.prog ((laidWorld os).forCall (fun _ _ => 0) ⟨#[], #[.agg #[.int .i64 0, .int .i64 0, .int .i64 0, .int .i64 0, .int .i64 0, .int .i64 0, .string ByteArray.empty, .slice none 0 0, .int .i64 0, .int .i64 0, .int .i64 0, .int .i64 0, .int .i64 0, .int .i64 0, .int .i64 0, .int .i64 0, .int .i64 0, .int .i64 0, .int .i64 0, .int .i64 0, .int .i64 0, .int .i64 0, .int .i64 0, .int .i64 0, .int .i64 0, .int .i64 0], .agg #[.int .i64 0, .int .i64 0, .int .i64 0, .int .i64 0, .int .i64 0, .int .i64 0, .int .i64 0, .bool false, .slice none 0 0, .string ByteArray.empty]], []⟩).memory Try.f4.params.toList Rows.raftCatchesSpec.vars false (#[.agg #[.int .i64 0, .int .i64 0, .int .i64 0, .int .i64 0, .int .i64 0, .int .i64 0, .string ByteArray.empty, .slice none 0 0, .int .i64 0, .int .i64 0, .int .i64 0, .int .i64 0, .int .i64 0, .int .i64 0, .int .i64 0, .int .i64 0, .int .i64 0, .int .i64 0, .int .i64 0, .int .i64 0, .int .i64 0, .int .i64 0, .int .i64 0, .int .i64 0, .int .i64 0, .int .i64 0], .agg #[.int .i64 0, .int .i64 0, .int .i64 0, .int .i64 0, .int .i64 0, .int .i64 0, .int .i64 0, .bool false, .slice none 0 0, .string ByteArray.empty]] : Array Value).toList 8 = some ([.agg [.lit (.int .i64 0), .lit (.int .i64 0), .agg [.lit (.int .i64 0), .lit (.int .i64 0), .lit (.int .i64 0), .lit (.int .i64 0), .lit (.string []), .nil], .lit (.int .i64 0), .lit (.int .i64 0), .lit (.int .i64 0), .lit (.int .i64 0), .agg [.lit (.int .i64 0), .lit (.int .i64 0), .lit (.int .i64 0), .lit (.int .i64 0), .lit (.int .i64 0), .lit (.int .i64 0), .lit (.int .i64 0)], .agg [.lit (.int .i64 0), .lit (.int .i64 0), .lit (.int .i64 0), .lit (.int .i64 0), .lit (.int .i64 0), .lit (.int .i64 0), .lit (.int .i64 0)]], .agg [.lit (.int .i64 0), .lit (.int .i64 0), .lit (.int .i64 0), .lit (.int .i64 0), .lit (.int .i64 0), .lit (.int .i64 0), .lit (.int .i64 0), .lit (.bool false), .nil, .lit (.string [])]], [], places) :=
  ⟨[], by kernel_rfl⟩
set_option maxRecDepth 100000 in
theorem lifted (os : Os) (started : os.Started) (H : Type) (enc : TypeId × Value → H) (F : Stop.Interp) :
    ReturnsInHanded {} Try.checked os 4 .any ((OpenSpec.ofChange Rows.raftCatchesSpec).preRow enc Try.prog Try.f4 Rows.raftCatchesRow.domain false Rows.raftCatchesRow.laid) (((OpenSpec.ofChange Rows.raftCatchesSpec).at F).post enc Try.prog Try.f4 false true false false) := by
  obtain ⟨places, hx⟩ := reads os enc
  refine returnsInHanded_of_row (C := Try.checked) (s := OpenSpec.ofChange Rows.raftCatchesSpec) own started (by kernel_rfl) Try.func4
    (witness_row_at (enc := enc) (C := Try.checked) false (laidWorld os) #[.agg #[.int .i64 0, .int .i64 0, .int .i64 0, .int .i64 0, .int .i64 0, .int .i64 0, .string ByteArray.empty, .slice none 0 0, .int .i64 0, .int .i64 0, .int .i64 0, .int .i64 0, .int .i64 0, .int .i64 0, .int .i64 0, .int .i64 0, .int .i64 0, .int .i64 0, .int .i64 0, .int .i64 0, .int .i64 0, .int .i64 0, .int .i64 0, .int .i64 0, .int .i64 0, .int .i64 0], .agg #[.int .i64 0, .int .i64 0, .int .i64 0, .int .i64 0, .int .i64 0, .int .i64 0, .int .i64 0, .bool false, .slice none 0 0, .string ByteArray.empty]] rfl (by kernel_rfl) (by kernel_rfl) (by kernel_rfl)
      (OpenSpec.preRow_of_cond 8 hx (by kernel_rfl) (fun k hk => by cases hk) (by kernel_rfl) (laid_none os _))) ?_
  intro W base args ds gs before hval hW _ _ hw hL _ _
  exact contract H enc W base args ds gs before hval hW hw
theorem said : Rows.RaftCatchesSaid :=
  OpenClaim.holds_of_cond 4 Try.f4 rfl rfl rfl rfl rfl rfl rfl ⟨rfl, rfl, rfl, rfl, rfl⟩ rfl rfl rfl rfl rfl (by kernel_rfl) Try.func4 (by kernel_rfl)
    (of_decide_eq_true (by kernel_rfl)) (by unfold Func.isWrapper; first | (rw [if_pos (by decide +kernel)]; kernel_rfl) | (rw [if_neg (by decide +kernel)]; exact ⟨rfl, rfl⟩))
    (fun os started H enc _ F => by rw [OpenClaim.pre_eq_preRow]; exact lifted os started H enc F)
end Go.Proofs.Ytjpjiniclibgkaa.Catches
