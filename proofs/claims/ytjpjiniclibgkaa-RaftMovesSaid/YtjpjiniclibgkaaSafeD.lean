/- A candidate that a majority voted for leads. Then: A leader hears how far a node is: got. Entries that a leader sends: whether they clash, and how they are laid. A leader's entries are heard: append1. A leader's snapshot is heard: install. A candidate is answered: ask. A leader's entries are heard, as the document says. Plain facts of nodes that can be. -/
import Derived.Test.YtjpjiniclibgkaaSafeC
namespace Go.Proofs.Ytjpjiniclibgkaa.Sx
open Go

def enoughB (n : Node) : Bool := decide (2 * (popN n.votes.toNat : Int) > n.size)
def leadN (n : Node) : Node :=
  { n with role := 2, lead := n.me, votes := 0
           next := fun j => if j < n.size.toNat then n.log.base + n.log.items.length + 1 else n.next j
           mat := fun j => if j = n.me.toNat then n.log.base + n.log.items.length else if j < n.size.toNat then 0 else n.mat j }
def noneE : Entry := ⟨1, 0, 0, 0, ByteArray.empty⟩
/-- A leader begins. -/
def winN (n : Node) : Node := if n.log.items.length < 256 then putN (leadN n) noneE else leadN n
theorem pop_le (v : Nat) : popN v ≤ 8 := by
  have : ∀ f v, popF f v ≤ f := by
    intro f
    induction f with
    | zero => intro v; exact Nat.le_refl _
    | succ f ih => intro v; have := ih (v / 2); simp only [popF]; omega
  exact this 8 v
structure LeadG where
  n : Node
  os : List OMsg
  m : Mem
  y : Bool
def leadSpec (t : TypeId) : Spec where
  A := LeadG
  R := fun ⟨n, os, m, y⟩ => Fit n ∧ n.log.items.length ≤ 299 ∧ n.commit ≤ n.log.base + n.log.items.length ∧ Mono (layN (leadN n) noneE) ∧ (0 ≤ n.votes ∧ n.votes < 256) ∧ Said m os ∧ os.length < 600 ∧ enoughB n = y
  J := fun ⟨_, _, m, _⟩ => m
  args := fun _ => [.p 0 0]
  h := fun ⟨n, os, _, _⟩ => turnH t 1 2 n .own os
  nx := 3
  Bb := AddB
  C := fun ⟨n, os, m, y⟩ ⟨n', A, c, os', m'⟩ => (y = true → n' = winN n ∧ Since m os os' (feedAllK n') ∧ Said m' os' ∧ (Cells m' A (itemsV n'.log.items) ∧ n'.log.items.length ≤ c ∧ Own m m' A (n'.log.items.length * 6) os')) ∧ ∀ b x, m b = some x → m' b = some x
  out := fun _ _ => .ret (.t [])
  h2 := fun ⟨n, os, _, y⟩ ⟨n', A, c, os', _⟩ => match y with
    | true => turnH t 3 4 n' (.st A c) os'
    | false => turnH t 3 4 n .own os
  nx2 := 5
  J2 := fun _ ⟨_, _, _, _, m'⟩ => m'
  ext := true
def S8 : List (Nat × Spec) := (71, popSpec) :: S7
theorem S8_all : ∀ f s, findS S8 f = some s → SpecOk Try.prog f s := CP_cons S7_all pop_ok
theorem S8_ok : CPOk Try.prog (CPs S8) := CPs_ok S8_all
theorem set_ltv (f : Nat → Int) (v : Int) (i j : Nat) : (if j = (i : Int).toNat then v else if j < i then v else f j) = if j < i + 1 then v else f j := by
  rw [Int.toNat_natCast]
  by_cases h1 : j = i
  · rw [if_pos h1, if_pos (by omega)]
  · rw [if_neg h1]
    by_cases h2 : j < i
    · rw [if_pos h2, if_pos (by omega)]
    · rw [if_neg h2, if_neg (by omega)]
theorem near_lead {n : Node} (hb : 0 ≤ n.log.base) (hs : n.size ≤ 7) : NearAll (leadN n) := by
  intro i hi
  have hi' : (i : Int) < n.size := hi
  refine ⟨by omega, by omega, ?_, ?_⟩
  · show 0 ≤ if (i : Int).toNat < n.size.toNat then _ else _
    rw [if_pos (by omega)]; omega
  · show (if (i : Int).toNat < n.size.toNat then _ else _) ≤ n.log.base + n.log.items.length + 1
    rw [if_pos (by omega)]; omega
set_option maxRecDepth 100000 in
set_option maxHeartbeats 1600000 in
theorem lead_ok : SpecOk Try.prog 48 (leadSpec 78) := by
  refine spec_of_exec (fn := Try.f48) (c := Try.f48.body.getD .skip) (d := 1) (lv := ([0, 2, 4, 18, 49, 50, 51, 86])) (DP := DPx T1 (CPs S8) ([0, 2, 4, 18, 49, 50, 51, 86])) T1_ok S8_ok (fun B => DPx_ok T1_ok ord S8_ok B) (leadSpec 78) (by rfl) (by rfl) (by rfl) (fun _ => Nat.le_of_ble_eq_true (by kernel_rfl)) ?_
  rintro ⟨n, os, m, y⟩ ⟨hf, hl9, hcl, hmono, ⟨hv1, hv2⟩, hsaid, hos, hy⟩
  obtain ⟨hs1, hs2, hm1, hm2, hb1, hb2, hl, hc1, hc2⟩ := hf
  have hf0 : Fit n := ⟨hs1, hs2, hm1, hm2, hb1, hb2, hl, hc1, hc2⟩
  have hf' : Fit (leadN n) := ⟨hs1, hs2, hm1, hm2, hb1, hb2, hl, hc1, hc2⟩
  have hlast := last_fit hf0
  have hpl := pop_le n.votes.toNat
  have hw : IntKind.i64.wrap (n.log.base + n.log.items.length + 1) = n.log.base + n.log.items.length + 1 := wrapi ⟨by omega, by omega⟩
  have hw2 : IntKind.i64.wrap (2 * (popN n.votes.toNat : Int)) = 2 * (popN n.votes.toNat : Int) := wrapi ⟨by omega, by omega⟩
  have hw3 : IntKind.u64.wrap n.votes = (n.votes.toNat : Int) := by rw [wrapu]; omega
  conv => whnf
  refine Or.inr ⟨[0], sc48_0, by kernel_rfl, ?_⟩
  conv => whnf
  rw [hw3]
  refine ⟨n.votes.toNat, by show n.votes.toNat < 256; omega, ?_⟩
  conv => whnf
  repeat (first | exact trivial | (refine ⟨by first | exact ⟨rfl, rfl, rfl⟩ | rfl | exact ⟨rfl, rfl⟩ | exact ⟨rfl, fun _ _ => rfl⟩ | exact fun _ _ h => h | (intro _ _ h; cases h; done), ?_⟩; conv => whnf))
  intro _ _
  conv => whnf
  repeat (first | exact trivial | (refine ⟨by first | exact ⟨rfl, rfl, rfl⟩ | rfl | exact ⟨rfl, rfl⟩ | exact ⟨rfl, fun _ _ => rfl⟩ | exact fun _ _ h => h | (intro _ _ h; cases h; done), ?_⟩; conv => whnf))
  rw [hw2]
  refine ⟨fun hno => ?_, fun hyes => ?_⟩
  · have hno : 2 * (popN n.votes.toNat : Int) ≤ n.size := of_decide_eq_true hno
    obtain rfl : y = false := by rw [← hy]; unfold enoughB; exact decide_eq_false (by omega)
    refine ⟨⟨n, none, 0, os, m⟩, ⟨fun h => (by cases h), fun _ _ h => h⟩, ?_⟩
    conv => whnf
    repeat (first | exact trivial | exact fun _ _ h => h | (refine ⟨by first | exact ⟨rfl, rfl, rfl⟩ | rfl | exact ⟨rfl, rfl⟩ | exact ⟨rfl, fun _ _ => rfl⟩ | exact fun _ _ h => h | (intro _ _ h; cases h; done), ?_⟩; conv => whnf))
  · have hyes : ¬ 2 * (popN n.votes.toNat : Int) ≤ n.size := of_decide_eq_false hyes
    obtain rfl : y = true := by rw [← hy]; unfold enoughB; exact decide_eq_true (by omega)
    conv => whnf
    intro A' cap m' hS
    refine ⟨⟨n.log, A', cap, m'⟩, ⟨.of_sealed hS, by show n.log.items.length < 2 ^ 62; omega⟩, ?_⟩
    conv => whnf
    repeat (first | exact trivial | (refine ⟨by first | exact ⟨rfl, rfl, rfl⟩ | rfl | exact ⟨rfl, rfl⟩ | exact ⟨rfl, fun _ _ => rfl⟩ | exact fun _ _ h => h | (intro _ _ h; cases h; done), ?_⟩; conv => whnf))
    intro _ _
    conv => whnf
    rw [hlast]
    refine ⟨Nat, fun i => (i : Int) ≤ n.size, fun i => ⟨94, [⟨0, [], .p 0 0⟩, ⟨2, [], .i .i64 (n.log.base + n.log.items.length)⟩, ⟨49, [], .i .i64 n.size⟩, ⟨50, [], .i .i64 i⟩], [], turnH 78 1 2 { n with role := 2, lead := n.me, votes := 0, next := fun j => if j < i then n.log.base + n.log.items.length + 1 else n.next j, mat := fun j => if j < i then 0 else n.mat j } .own os, 3⟩, fun _ => m, fun i => n.size.toNat - i, ⟨0, rfl, by show (0 : Int) ≤ _; omega, ?_⟩, ?_⟩
    conv => whnf
    · conv => whnf
      repeat (first | exact trivial | (refine ⟨by first | exact ⟨rfl, rfl, rfl⟩ | rfl | exact ⟨rfl, rfl⟩ | exact ⟨rfl, fun _ _ => rfl⟩ | exact fun _ _ h => h | (intro _ _ h; cases h; done), ?_⟩; conv => whnf))
    · intro i hi
      refine ⟨fun hlt => ?_, fun hge => ?_⟩
      conv => whnf
      · have hlt : (i : Int) < n.size := of_decide_eq_true hlt
        conv => whnf
        refine Or.inr ⟨[], sc48_6, by kernel_rfl, ?_⟩
        conv => whnf
        repeat (first | exact trivial | (refine ⟨by first | exact ⟨rfl, rfl, rfl⟩ | rfl | exact ⟨rfl, rfl⟩ | exact ⟨rfl, fun _ _ => rfl⟩ | exact fun _ _ h => h | (intro _ _ h; cases h; done) | exact ⟨Int.natCast_nonneg _, by show (i : Int) < 7; omega⟩ | (show (i : Int).toNat < 7; omega), ?_⟩; conv => whnf))
        refine ⟨i + 1, rfl, ⟨by show ((i + 1 : Nat) : Int) ≤ n.size; omega, by show n.size.toNat - (i + 1) < n.size.toNat - i; omega⟩, ?_⟩
        conv => whnf
        repeat (first | exact trivial | (refine ⟨by first | exact ⟨rfl, rfl, rfl⟩ | rfl | exact ⟨rfl, rfl⟩ | exact ⟨rfl, fun _ _ => rfl⟩ | exact fun _ _ h => h | (intro _ _ h; cases h; done) | exact wrapi_succ (by omega) | exact ⟨rfl, fun j _ => by rw [hw]; exact set_ltv _ _ i j⟩ | exact ⟨rfl, fun j _ => set_ltv _ _ i j⟩, ?_⟩; conv => whnf))
      · have hge : ¬ (i : Int) < n.size := of_decide_eq_false hge
        obtain rfl : n.size.toNat = i := by omega
        conv => whnf
        refine Or.inr ⟨[], sc48_8, by kernel_rfl, ?_⟩
        conv => whnf
        repeat (first | exact trivial | (refine ⟨by first | exact ⟨rfl, rfl, rfl⟩ | rfl | exact ⟨rfl, rfl⟩ | exact ⟨rfl, fun _ _ => rfl⟩ | exact fun _ _ h => h | (intro _ _ h; cases h; done) | exact ⟨hm1, by show n.me < 7; omega⟩ | (show n.me.toNat < 7; omega), ?_⟩; conv => whnf))
        refine ⟨fun hsm => ?_, fun hbig => ?_⟩
        · have hsm : n.log.items.length < 256 := by have h2 : (n.log.items.length : Int) < 256 := of_decide_eq_true hsm; omega
          refine ⟨⟨leadN n, noneE, os, m⟩, ⟨hf', hl9, hcl, near_lead hb1 hs2, hmono, hsaid, by show os.length < 700; omega⟩, ?_⟩
          conv => whnf
          repeat (first | exact trivial | (refine ⟨by first | exact ⟨rfl, rfl, rfl⟩ | rfl | exact ⟨rfl, rfl⟩ | exact ⟨rfl, fun _ _ => rfl⟩ | exact fun _ _ h => h | (intro _ _ h; cases h; done), ?_⟩; conv => whnf))
          rintro ⟨n', A2, c2, os2, m2⟩ ⟨hn', hsince, hsaid2, ⟨hc2, hcap2, how⟩, hext2⟩ m3 h3 h4
          refine ⟨⟨n', A2, c2, os2, m3⟩, ⟨fun _ => ⟨by rw [hn']; unfold winN; rw [if_pos hsm], hsince, hsaid2.ext h4, hc2.ext h4, hcap2, how.1.ext h4, how.2⟩, h3⟩, ?_⟩
          conv => whnf
          repeat (first | exact trivial | exact fun _ _ h => h | (refine ⟨by first | exact ⟨rfl, rfl, rfl⟩ | rfl | exact ⟨rfl, rfl⟩ | exact ⟨rfl, fun _ _ => rfl⟩ | exact fun _ _ h => h | (intro _ _ h; cases h; done) | exact h3, ?_⟩; conv => whnf))
        · have hbig : ¬ n.log.items.length < 256 := by have h2 : ¬ (n.log.items.length : Int) < 256 := of_decide_eq_false hbig; omega
          conv => whnf
          intro A2 c2 m2 hS2
          have hc2 : Cells m2 A2 (itemsV (leadN n).log.items) := .of_sealed hS2
          refine ⟨⟨leadN n, A2, c2, os, m2⟩, ⟨hf', near_lead hb1 hs2, ⟨hc2, hS2.le⟩, hsaid.ext hS2.ext, by show os.length < 800; omega⟩, ?_⟩
          conv => whnf
          repeat (first | exact trivial | (refine ⟨by first | exact ⟨rfl, rfl, rfl⟩ | rfl | exact ⟨rfl, rfl⟩ | exact ⟨rfl, fun _ _ => rfl⟩ | exact fun _ _ h => h | (intro _ _ h; cases h; done), ?_⟩; conv => whnf))
          rintro ⟨os3, m3⟩ ⟨hsince, hsaid3, hext3⟩ m4 h5 h6
          refine ⟨⟨leadN n, A2, c2, os3, m4⟩, ⟨fun _ => ⟨by unfold winN; rw [if_neg hbig], hsince.back hS2.ext, hsaid3.ext h6, hc2.ext fun b x h => h6 b x (hext3 b x h), hS2.le, own_of hS2 hsaid hsince (fun _ _ h => h) fun b x h => h6 b x (hext3 b x h)⟩, fun b x h => h5 b x (hS2.ext b x h)⟩, ?_⟩
          conv => whnf
          repeat (first | exact trivial | exact fun _ _ h => h | (refine ⟨by first | exact ⟨rfl, rfl, rfl⟩ | rfl | exact ⟨rfl, rfl⟩ | exact ⟨rfl, fun _ _ => rfl⟩ | exact fun _ _ h => h | (intro _ _ h; cases h; done) | exact fun b x h => h5 b x (hS2.ext b x h), ?_⟩; conv => whnf))
theorem popF_less : ∀ (f v : Nat), v < 2 ^ f → popF (f + 1) v = popF f v
  | 0, v, h => by
    have : v = 0 := by omega
    subst this; rfl
  | f + 1, v, h => by
    have ih := popF_less f (v / 2) (by rw [Nat.pow_succ] at h; omega)
    show v % 2 + popF (f + 1) (v / 2) = v % 2 + popF f (v / 2)
    rw [ih]
theorem pop_half {v : Nat} (h : v < 256) : popN v = v % 2 + popN (v / 2) := by
  show v % 2 + popF 7 (v / 2) = v % 2 + popF 8 (v / 2)
  rw [popF_less 7 (v / 2) (by omega)]
structure CountG where
  c : Nat
  v : Nat
set_option maxRecDepth 100000 in
set_option maxHeartbeats 1600000 in
theorem votes_ok : SpecOk Try.prog 56 (leadSpec 85) := by
  refine spec_of_exec (fn := Try.f56) (c := Try.f56.body.getD .skip) (d := 1) (lv := ([0, 2, 3, 4, 6, 13, 27, 60, 95])) (DP := DPx T1 (CPs S8) ([0, 2, 3, 4, 6, 13, 27, 60, 95])) T1_ok S8_ok (fun B => DPx_ok T1_ok ord S8_ok B) (leadSpec 85) (by rfl) (by rfl) (by rfl) (fun _ => Nat.le_of_ble_eq_true (by kernel_rfl)) ?_
  rintro ⟨n, os, m, y⟩ ⟨hf, hl9, hcl, hmono, ⟨hv1, hv2⟩, hsaid, hos, hy⟩
  obtain ⟨hs1, hs2, hm1, hm2, hb1, hb2, hl, hc1, hc2⟩ := hf
  have hf0 : Fit n := ⟨hs1, hs2, hm1, hm2, hb1, hb2, hl, hc1, hc2⟩
  have hf' : Fit (leadN n) := ⟨hs1, hs2, hm1, hm2, hb1, hb2, hl, hc1, hc2⟩
  have hlast := last_fit hf0
  have hpl := pop_le n.votes.toNat
  have hw : IntKind.i64.wrap (n.log.base + n.log.items.length + 1) = n.log.base + n.log.items.length + 1 := wrapi ⟨by omega, by omega⟩
  have hw2 : IntKind.i64.wrap (2 * (popN n.votes.toNat : Int)) = 2 * (popN n.votes.toNat : Int) := wrapi ⟨by omega, by omega⟩
  have hw3 : IntKind.u64.wrap n.votes = (n.votes.toNat : Int) := by rw [wrapu]; omega
  have hvv : ((n.votes.toNat : Nat) : Int) = n.votes := by omega
  refine ⟨CountG, fun ⟨c, v⟩ => c + popN v = popN n.votes.toNat ∧ v < 256, fun ⟨c, v⟩ => ⟨101, [⟨0, [], .p 0 0⟩, ⟨2, [], .i .i64 c⟩, ⟨3, [], .i .i64 v⟩], [], turnH 85 1 2 n .own os, 3⟩, fun _ => m, fun ⟨_, v⟩ => v, ⟨⟨0, n.votes.toNat⟩, rfl, ⟨Nat.zero_add _, by omega⟩, ?_⟩, ?_⟩
  conv => whnf
  · conv => whnf
    repeat (first | exact trivial | (refine ⟨by first | exact ⟨rfl, rfl, rfl⟩ | rfl | exact ⟨rfl, rfl⟩ | exact ⟨rfl, fun _ _ => rfl⟩ | exact fun _ _ h => h | (intro _ _ h; cases h; done) | exact hvv.symm, ?_⟩; conv => whnf))
  · rintro ⟨c, v⟩ ⟨hcv, hv⟩
    refine ⟨fun hlt => ?_, fun hge => ?_⟩
    conv => whnf
    · have hlt : 0 < v := by have h2 : (v : Int) > 0 := of_decide_eq_true hlt; omega
      have hh := pop_half hv
      have hpv := pop_le (v / 2)
      have h1 : IntKind.i64.wrap ((c : Int) + (v : Int).tmod 2) = ((c + v % 2 : Nat) : Int) := by
        rw [show (v : Int).tmod 2 = ((v % 2 : Nat) : Int) from rfl, wrapi ⟨by omega, by omega⟩]; omega
      have h2 : IntKind.i64.wrap ((v : Int).tdiv 2) = ((v / 2 : Nat) : Int) := by
        rw [show (v : Int).tdiv 2 = ((v / 2 : Nat) : Int) from rfl, wrapi ⟨by omega, by omega⟩]
      conv => whnf
      repeat (first | exact trivial | (refine ⟨by first | exact ⟨rfl, rfl, rfl⟩ | rfl | exact ⟨rfl, rfl⟩ | exact ⟨rfl, fun _ _ => rfl⟩ | exact fun _ _ h => h | (intro _ _ h; cases h; done) | (show (2 : Int) ≠ 0; decide), ?_⟩; conv => whnf))
      refine ⟨⟨c + v % 2, v / 2⟩, rfl, ⟨⟨by omega, by omega⟩, by show v / 2 < v; omega⟩, ?_⟩
      conv => whnf
      repeat (first | exact trivial | (refine ⟨by first | exact ⟨rfl, rfl, rfl⟩ | rfl | exact ⟨rfl, rfl⟩ | exact ⟨rfl, fun _ _ => rfl⟩ | exact fun _ _ h => h | (intro _ _ h; cases h; done) | exact h1 | exact h2, ?_⟩; conv => whnf))
    · have hge : v = 0 := by have h2 : ¬ (v : Int) > 0 := of_decide_eq_false hge; omega
      subst hge
      have hcp : c = popN n.votes.toNat := by have h0 : popN 0 = 0 := rfl; omega
      subst hcp
      conv => whnf
      rw [hw2]
      refine ⟨fun hno => ?_, fun hyes => ?_⟩
      · have hno : 2 * (popN n.votes.toNat : Int) ≤ n.size := of_decide_eq_true hno
        obtain rfl : y = false := by rw [← hy]; unfold enoughB; exact decide_eq_false (by omega)
        refine ⟨⟨n, none, 0, os, m⟩, ⟨fun h => (by cases h), fun _ _ h => h⟩, ?_⟩
        conv => whnf
        repeat (first | exact trivial | exact fun _ _ h => h | (refine ⟨by first | exact ⟨rfl, rfl, rfl⟩ | rfl | exact ⟨rfl, rfl⟩ | exact ⟨rfl, fun _ _ => rfl⟩ | exact fun _ _ h => h | (intro _ _ h; cases h; done), ?_⟩; conv => whnf))
      · have hyes : ¬ 2 * (popN n.votes.toNat : Int) ≤ n.size := of_decide_eq_false hyes
        obtain rfl : y = true := by rw [← hy]; unfold enoughB; exact decide_eq_true (by omega)
        conv => whnf
        intro A' cap m' hS
        refine ⟨⟨n.log, A', cap, m'⟩, ⟨.of_sealed hS, by show n.log.items.length < 2 ^ 62; omega⟩, ?_⟩
        conv => whnf
        repeat (first | exact trivial | (refine ⟨by first | exact ⟨rfl, rfl, rfl⟩ | rfl | exact ⟨rfl, rfl⟩ | exact ⟨rfl, fun _ _ => rfl⟩ | exact fun _ _ h => h | (intro _ _ h; cases h; done), ?_⟩; conv => whnf))
        intro _ _
        conv => whnf
        rw [hlast]
        refine ⟨Nat, fun i => (i : Int) ≤ n.size, fun i => ⟨101, [⟨0, [], .p 0 0⟩, ⟨4, [], .i .i64 (n.log.base + n.log.items.length)⟩, ⟨6, [], .i .i64 i⟩], [], turnH 85 1 2 { n with role := 2, lead := n.me, votes := 0, next := fun j => if j < i then n.log.base + n.log.items.length + 1 else n.next j, mat := fun j => if j < i then 0 else n.mat j } .own os, 3⟩, fun _ => m, fun i => n.size.toNat - i, ⟨0, rfl, by show (0 : Int) ≤ _; omega, ?_⟩, ?_⟩
        conv => whnf
        · conv => whnf
          repeat (first | exact trivial | (refine ⟨by first | exact ⟨rfl, rfl, rfl⟩ | rfl | exact ⟨rfl, rfl⟩ | exact ⟨rfl, fun _ _ => rfl⟩ | exact fun _ _ h => h | (intro _ _ h; cases h; done), ?_⟩; conv => whnf))
        · intro i hi
          refine ⟨fun hlt => ?_, fun hge => ?_⟩
          conv => whnf
          · have hlt : (i : Int) < n.size := of_decide_eq_true hlt
            conv => whnf
            repeat (first | exact trivial | (refine ⟨by first | exact ⟨rfl, rfl, rfl⟩ | rfl | exact ⟨rfl, rfl⟩ | exact ⟨rfl, fun _ _ => rfl⟩ | exact fun _ _ h => h | (intro _ _ h; cases h; done) | exact ⟨Int.natCast_nonneg _, by show (i : Int) < 7; omega⟩ | (show (i : Int).toNat < 7; omega), ?_⟩; conv => whnf))
            refine ⟨i + 1, rfl, ⟨by show ((i + 1 : Nat) : Int) ≤ n.size; omega, by show n.size.toNat - (i + 1) < n.size.toNat - i; omega⟩, ?_⟩
            conv => whnf
            repeat (first | exact trivial | (refine ⟨by first | exact ⟨rfl, rfl, rfl⟩ | rfl | exact ⟨rfl, rfl⟩ | exact ⟨rfl, fun _ _ => rfl⟩ | exact fun _ _ h => h | (intro _ _ h; cases h; done) | exact wrapi_succ (by omega) | exact ⟨rfl, fun j _ => by rw [hw]; exact set_ltv _ _ i j⟩ | exact ⟨rfl, fun j _ => set_ltv _ _ i j⟩, ?_⟩; conv => whnf))
          · have hge : ¬ (i : Int) < n.size := of_decide_eq_false hge
            obtain rfl : n.size.toNat = i := by omega
            conv => whnf
            refine Or.inr ⟨[], sc56_15, by kernel_rfl, ?_⟩
            conv => whnf
            repeat (first | exact trivial | (refine ⟨by first | exact ⟨rfl, rfl, rfl⟩ | rfl | exact ⟨rfl, rfl⟩ | exact ⟨rfl, fun _ _ => rfl⟩ | exact fun _ _ h => h | (intro _ _ h; cases h; done) | exact ⟨hm1, by show n.me < 7; omega⟩ | (show n.me.toNat < 7; omega), ?_⟩; conv => whnf))
            refine ⟨fun hsm => ?_, fun hbig => ?_⟩
            · have hsm : n.log.items.length < 256 := by have h2 : (n.log.items.length : Int) < 256 := of_decide_eq_true hsm; omega
              refine ⟨⟨leadN n, noneE, os, m⟩, ⟨hf', hl9, hcl, near_lead hb1 hs2, hmono, hsaid, by show os.length < 700; omega⟩, ?_⟩
              conv => whnf
              repeat (first | exact trivial | (refine ⟨by first | exact ⟨rfl, rfl, rfl⟩ | rfl | exact ⟨rfl, rfl⟩ | exact ⟨rfl, fun _ _ => rfl⟩ | exact fun _ _ h => h | (intro _ _ h; cases h; done), ?_⟩; conv => whnf))
              rintro ⟨n', A2, c2, os2, m2⟩ ⟨hn', hsince, hsaid2, ⟨hc2, hcap2, how⟩, hext2⟩ m3 h3 h4
              refine ⟨⟨n', A2, c2, os2, m3⟩, ⟨fun _ => ⟨by rw [hn']; unfold winN; rw [if_pos hsm], hsince, hsaid2.ext h4, hc2.ext h4, hcap2, how.1.ext h4, how.2⟩, h3⟩, ?_⟩
              conv => whnf
              repeat (first | exact trivial | exact fun _ _ h => h | (refine ⟨by first | exact ⟨rfl, rfl, rfl⟩ | rfl | exact ⟨rfl, rfl⟩ | exact ⟨rfl, fun _ _ => rfl⟩ | exact fun _ _ h => h | (intro _ _ h; cases h; done) | exact h3, ?_⟩; conv => whnf))
            · have hbig : ¬ n.log.items.length < 256 := by have h2 : ¬ (n.log.items.length : Int) < 256 := of_decide_eq_false hbig; omega
              conv => whnf
              intro A2 c2 m2 hS2
              have hc2 : Cells m2 A2 (itemsV (leadN n).log.items) := .of_sealed hS2
              refine ⟨⟨leadN n, A2, c2, os, m2⟩, ⟨hf', near_lead hb1 hs2, ⟨hc2, hS2.le⟩, hsaid.ext hS2.ext, by show os.length < 800; omega⟩, ?_⟩
              conv => whnf
              repeat (first | exact trivial | (refine ⟨by first | exact ⟨rfl, rfl, rfl⟩ | rfl | exact ⟨rfl, rfl⟩ | exact ⟨rfl, fun _ _ => rfl⟩ | exact fun _ _ h => h | (intro _ _ h; cases h; done), ?_⟩; conv => whnf))
              rintro ⟨os3, m3⟩ ⟨hsince, hsaid3, hext3⟩ m4 h5 h6
              refine ⟨⟨leadN n, A2, c2, os3, m4⟩, ⟨fun _ => ⟨by unfold winN; rw [if_neg hbig], hsince.back hS2.ext, hsaid3.ext h6, hc2.ext fun b x h => h6 b x (hext3 b x h), hS2.le, own_of hS2 hsaid hsince (fun _ _ h => h) fun b x h => h6 b x (hext3 b x h)⟩, fun b x h => h5 b x (hS2.ext b x h)⟩, ?_⟩
              conv => whnf
              repeat (first | exact trivial | exact fun _ _ h => h | (refine ⟨by first | exact ⟨rfl, rfl, rfl⟩ | rfl | exact ⟨rfl, rfl⟩ | exact ⟨rfl, fun _ _ => rfl⟩ | exact fun _ _ h => h | (intro _ _ h; cases h; done) | exact fun b x h => h5 b x (hS2.ext b x h), ?_⟩; conv => whnf))
end Go.Proofs.Ytjpjiniclibgkaa.Sx

namespace Go.Proofs.Ytjpjiniclibgkaa.Sx
open Go

def lastI (n : Node) : Int := n.log.base + n.log.items.length
def isLead (n : Node) (k : Msg) : Bool := (n.role == 2) && (k.term == n.log.term)
/-- How far the sender is, as far as is known. -/
def farI (n : Node) (k : Msg) : Int := max (n.mat k.frm.toNat) (min k.last (lastI n))
def hearN (n : Node) (k : Msg) : Node :=
  { n with mat := fun j => if j = k.frm.toNat then farI n k else n.mat j
           next := fun j => if j = k.frm.toNat then max (n.next k.frm.toNat) (farI n k + 1) else n.next j }
def backI (n : Node) (k : Msg) : Int := max (min (n.next k.frm.toNat - 1) (k.last + 1)) (n.mat k.frm.toNat + 1)
def gotN (n : Node) (k : Msg) : Node := match isLead n k with
  | false => n
  | true => match k.yes with
    | true => { hearN n k with commit := commitN (hearN n k) }
    | false => match decide (backI n k < n.next k.frm.toNat) with
      | true => { n with next := fun j => if j = k.frm.toNat then backI n k else n.next j }
      | false => n
def gotY (n : Node) (k : Msg) : Bool := isLead n k && match k.yes with
  | true => decide (farI n k < lastI n) && (max (n.next k.frm.toNat) (farI n k + 1) == farI n k + 1)
  | false => decide (backI n k < n.next k.frm.toNat)
structure GotG where
  n : Node
  os : List OMsg
  m : Mem
  k : Msg
  D : Option Addr
  e : Nat
  y : Bool
structure Range (n : Node) : Prop where
  nx : ∀ i : Nat, (i : Int) < n.size → 0 ≤ n.next i ∧ n.next i ≤ lastI n + 1
  mt : ∀ i : Nat, (i : Int) < n.size → 0 ≤ n.mat i ∧ n.mat i ≤ lastI n
def gotSpec (t : TypeId) (any : Bool) : Spec where
  A := GotG
  R := fun ⟨n, os, m, k, _, _, y⟩ => Fit n ∧ Range n ∧ n.commit ≤ lastI n ∧ Mono n ∧ (0 ≤ k.frm ∧ k.frm < n.size ∧ 0 ≤ k.last ∧ k.last ≤ 2 ^ 41) ∧ Said m os ∧ os.length < 600 ∧ gotY n k = y ∧ (any = false → isLead n k = true)
  J := fun ⟨_, _, m, _, _, _, _⟩ => m
  args := fun ⟨_, _, _, k, D, e, _⟩ => [.p 0 0, .g (msgC k (.sl D k.items.length e))]
  h := fun ⟨n, os, _, _, _, _, _⟩ => turnH t 1 2 n .own os
  nx := 3
  Bb := AddB
  C := fun ⟨n, os, m, k, _, _, y⟩ ⟨n', A, c, os', m'⟩ => n' = gotN n k ∧ (y = true → Since m os os' [feedN n' k.frm] ∧ Said m' os' ∧ (Cells m' A (itemsV n'.log.items) ∧ n'.log.items.length ≤ c ∧ Own m m' A (n'.log.items.length * 6) os')) ∧ ∀ b x, m b = some x → m' b = some x
  out := fun _ _ => .ret (.t [])
  h2 := fun ⟨_, os, _, _, _, _, y⟩ ⟨n', A, c, os', _⟩ => match y with
    | true => turnH t 3 4 n' (.st A c) os'
    | false => turnH t 3 4 n' .own os
  nx2 := 5
  J2 := fun _ ⟨_, _, _, _, m'⟩ => m'
  ext := true
theorem hear_fit {n : Node} {k : Msg} (h : Fit n) (hcl : n.commit ≤ lastI n) : Fit { hearN n k with commit := commitN (hearN n k) } := by
  obtain ⟨hs1, hs2, hm1, hm2, hb1, hb2, hl, hc1, hc2⟩ := h
  have := commitGo_le (n := hearN n k) ((lastN (hearN n k).log).1 - (hearN n k).commit).toNat
  have hlast : (lastN (hearN n k).log).1 = lastI n := last_fit ⟨hs1, hs2, hm1, hm2, hb1, hb2, hl, hc1, hc2⟩
  have hcc : (hearN n k).commit = n.commit := rfl
  have hli : lastI n = n.log.base + n.log.items.length := rfl
  refine ⟨hs1, hs2, hm1, hm2, hb1, hb2, hl, ?_, ?_⟩
  · show 0 ≤ commitN (hearN n k); unfold commitN; omega
  · show commitN (hearN n k) ≤ 2 ^ 42; unfold commitN; omega
set_option maxRecDepth 100000 in
set_option maxHeartbeats 1600000 in
theorem got_ok : SpecOk Try.prog 49 (gotSpec 78 true) := by
  refine spec_of_exec (fn := Try.f49) (c := Try.f49.body.getD .skip) (d := 0) (lv := ([0, 1, 3, 4, 6, 23, 34, 111, 148])) (DP := DPx T1 (CPs S8) ([0, 1, 3, 4, 6, 23, 34, 111, 148])) T1_ok S8_ok (fun B => DPx_ok T1_ok ord S8_ok B) (gotSpec 78 true) (by rfl) (by rfl) (by rfl) (fun _ => Nat.le_of_ble_eq_true (by kernel_rfl)) ?_
  rintro ⟨n, os, m, k, D, e, y⟩ ⟨hf, hr, hcl, hmono, ⟨hk1, hk2, hk3, hk4⟩, hsaid, hos, hy, hany⟩
  obtain ⟨hs1, hs2, hm1, hm2, hb1, hb2, hl, hc1, hc2⟩ := hf
  have hf0 : Fit n := ⟨hs1, hs2, hm1, hm2, hb1, hb2, hl, hc1, hc2⟩
  have hlast : (lastN n.log).1 = lastI n := last_fit hf0
  have hli : lastI n = n.log.base + n.log.items.length := rfl
  have hkt : (k.frm.toNat : Int) < n.size := by omega
  obtain ⟨hn1, hn2⟩ := hr.nx _ hkt
  obtain ⟨ht1, ht2⟩ := hr.mt _ hkt
  have hix : 0 ≤ k.frm ∧ k.frm < ((7 : Nat) : Int) := ⟨hk1, by show k.frm < 7; omega⟩
  have hix2 : k.frm.toNat < 7 := by omega
  conv => whnf
  refine Or.inr ⟨[], sc49_1, by kernel_rfl, ?_⟩
  conv => whnf
  refine ⟨fun hno => ?_, fun hyes => ?_⟩
  conv => whnf
  · have hno : isLead n k = false := by
      unfold isLead
      cases h1 : (n.role == 2) <;> cases h2 : (k.term == n.log.term) <;> simp [bne, h1, h2] at hno ⊢
    obtain rfl : y = false := by rw [← hy]; unfold gotY; rw [hno]; rfl
    have hr : gotN n k = n := by unfold gotN; rw [hno]
    refine ⟨⟨n, none, 0, os, m⟩, ⟨hr.symm, fun h => (by cases h), fun _ _ h => h⟩, ?_⟩
    conv => whnf
    repeat (first | exact trivial | exact fun _ _ h => h | (refine ⟨by first | exact ⟨rfl, rfl, rfl⟩ | rfl | exact ⟨rfl, rfl⟩ | exact ⟨rfl, fun _ _ => rfl⟩ | exact fun _ _ h => h | (intro _ _ h; cases h; done), ?_⟩; conv => whnf))
  · have hlead : isLead n k = true := by
      unfold isLead
      cases h1 : (n.role == 2) <;> cases h2 : (k.term == n.log.term) <;> simp [bne, h1, h2] at hyes ⊢
    conv => whnf
    intro A' cap m' hS
    refine ⟨⟨n.log, A', cap, m'⟩, ⟨.of_sealed hS, by show n.log.items.length < 2 ^ 62; omega⟩, ?_⟩
    conv => whnf
    repeat (first | exact trivial | (refine ⟨by first | exact ⟨rfl, rfl, rfl⟩ | rfl | exact ⟨rfl, rfl⟩ | exact ⟨rfl, fun _ _ => rfl⟩ | exact fun _ _ h => h | (intro _ _ h; cases h; done), ?_⟩; conv => whnf))
    intro _ _
    conv => whnf
    rw [hlast]
    refine ⟨fun hyes => ?_, fun hno => ?_⟩
    · have hmx : (if n.mat k.frm.toNat < (if lastI n < k.last then lastI n else k.last) then (if lastI n < k.last then lastI n else k.last) else n.mat k.frm.toNat) = farI n k := by unfold farI; split <;> split <;> omega
      have hfar : 0 ≤ farI n k ∧ farI n k ≤ lastI n := by unfold farI; omega
      have hw1 : IntKind.i64.wrap (farI n k + 1) = farI n k + 1 := wrapi ⟨by omega, by omega⟩
      have hmx2 : (if n.next k.frm.toNat < farI n k + 1 then farI n k + 1 else n.next k.frm.toNat) = max (n.next k.frm.toNat) (farI n k + 1) := by split <;> omega
      conv => whnf
      refine Or.inr ⟨[], sc49_4, by kernel_rfl, ?_⟩
      conv => whnf
      repeat (first | exact trivial | (refine ⟨by first | exact ⟨rfl, rfl, rfl⟩ | rfl | exact ⟨rfl, rfl⟩ | exact ⟨rfl, fun _ _ => rfl⟩ | exact fun _ _ h => h | (intro _ _ h; cases h; done) | exact hix | exact hix2, ?_⟩; conv => whnf))
      rw [hmx]
      refine Or.inr ⟨[], sc49_5, by kernel_rfl, ?_⟩
      conv => whnf
      repeat (first | exact trivial | (refine ⟨by first | exact ⟨rfl, rfl, rfl⟩ | rfl | exact ⟨rfl, rfl⟩ | exact ⟨rfl, fun _ _ => rfl⟩ | exact fun _ _ h => h | (intro _ _ h; cases h; done) | exact hix | exact hix2, ?_⟩; conv => whnf))
      refine ⟨⟨hearN n k, .own, os, m⟩, ⟨⟨hs1, hs2, hm1, hm2, hb1, hb2, hl, hc1, hc2⟩, hmono, trivial⟩, ?_⟩
      conv => whnf
      repeat (first | exact trivial | (refine ⟨by first | exact ⟨rfl, rfl, rfl⟩ | rfl | exact ⟨rfl, rfl⟩ | exact ⟨rfl, fun _ _ => rfl⟩ | exact fun _ _ h => h | (intro _ _ h; cases h; done) | exact ⟨rfl, fun j _ => by simp only [↓reduceIte, hw1, hmx2]; rfl⟩, ?_⟩; conv => whnf))
      intro b hb
      have hgn : b = gotN n k := by unfold gotN; rw [hlead, hyes]; exact hb
      have hbm : b.mat k.frm.toNat = farI n k := by rw [hb]; exact if_pos rfl
      have hbx : b.next k.frm.toNat = max (n.next k.frm.toNat) (farI n k + 1) := by rw [hb]; exact if_pos rfl
      have hy2 : (if decide (farI n k < lastI n) = true then (max (n.next k.frm.toNat) (farI n k + 1) == farI n k + 1) else false) = y := by
        rw [ifand, ← hy]; unfold gotY; rw [hlead, hyes]; rfl
      have hbf : Fit b := by rw [hb]; exact hear_fit hf0 hcl
      have hbn : Near b k.frm := by
        refine ⟨hk1, by omega, ?_, ?_⟩
        · rw [hbx]; omega
        · rw [hbx, hb]; show _ ≤ n.log.base + n.log.items.length + 1; omega
      conv => whnf
      refine Or.inr ⟨[], sc49_7, by kernel_rfl, ?_⟩
      conv => whnf
      repeat (first | exact trivial | (refine ⟨by first | exact ⟨rfl, rfl, rfl⟩ | rfl | exact ⟨rfl, rfl⟩ | exact ⟨rfl, fun _ _ => rfl⟩ | exact fun _ _ h => h | (intro _ _ h; cases h; done) | exact hix | exact hix2 | exact fun _ => hix | exact fun _ => hix2, ?_⟩; conv => whnf))
      rw [hbm, hbx, hw1, hy2]
      refine ⟨fun h1 => ?_, fun h0 => ?_⟩
      · subst h1
        conv => whnf
        intro A2 c2 m2 hS2
        have hcc2 : Cells m2 A2 (itemsV (b).log.items) := .of_sealed hS2
        refine ⟨⟨b, A2, c2, os, m2, k.frm⟩, ⟨hbf, hbn, ⟨hcc2, hS2.le⟩, hsaid.ext hS2.ext, by show os.length < 900; omega⟩, ?_⟩
        conv => whnf
        repeat (first | exact trivial | (refine ⟨by first | exact ⟨rfl, rfl, rfl⟩ | rfl | exact ⟨rfl, rfl⟩ | exact ⟨rfl, fun _ _ => rfl⟩ | exact fun _ _ h => h | (intro _ _ h; cases h; done), ?_⟩; conv => whnf))
        rintro ⟨os3, m3⟩ ⟨⟨o, rfl, hok, hof⟩, hsaid3, hext3⟩ m4 h5 h6
        have how := own_of hS2 hsaid ((Since.refl os).snoc hok hof) (fun _ _ h => h) fun b x h => h6 b x (hext3 b x h)
        refine ⟨⟨b, A2, c2, os ++ [o], m4⟩, ⟨hgn, fun _ => ⟨(Since.refl os).snoc hok (hof.back hS2.ext), hsaid3.ext h6, hcc2.ext fun b x h => h6 b x (hext3 b x h), hS2.le, how⟩, fun b x h => h5 b x (hS2.ext b x h)⟩, ?_⟩
        conv => whnf
        repeat (first | exact trivial | exact fun _ _ h => h | (refine ⟨by first | exact ⟨rfl, rfl, rfl⟩ | rfl | exact ⟨rfl, rfl⟩ | exact ⟨rfl, fun _ _ => rfl⟩ | exact fun _ _ h => h | (intro _ _ h; cases h; done) | exact fun b x h => h5 b x (hS2.ext b x h), ?_⟩; conv => whnf))
      · subst h0
        refine ⟨⟨b, none, 0, os, m⟩, ⟨hgn, fun h => (by cases h), fun _ _ h => h⟩, ?_⟩
        conv => whnf
        repeat (first | exact trivial | exact fun _ _ h => h | (refine ⟨by first | exact ⟨rfl, rfl, rfl⟩ | rfl | exact ⟨rfl, rfl⟩ | exact ⟨rfl, fun _ _ => rfl⟩ | exact fun _ _ h => h | (intro _ _ h; cases h; done), ?_⟩; conv => whnf))
    · have hw1 : IntKind.i64.wrap (n.next k.frm.toNat - 1) = n.next k.frm.toNat - 1 := wrapi ⟨by omega, by omega⟩
      have hw2 : IntKind.i64.wrap (k.last + 1) = k.last + 1 := wrapi ⟨by omega, by omega⟩
      have hw3 : IntKind.i64.wrap (n.mat k.frm.toNat + 1) = n.mat k.frm.toNat + 1 := wrapi ⟨by omega, by omega⟩
      have hbk : (if (if k.last + 1 < n.next k.frm.toNat - 1 then k.last + 1 else n.next k.frm.toNat - 1) < n.mat k.frm.toNat + 1 then n.mat k.frm.toNat + 1 else (if k.last + 1 < n.next k.frm.toNat - 1 then k.last + 1 else n.next k.frm.toNat - 1)) = backI n k := by unfold backI; split <;> split <;> omega
      have hy2 : decide (backI n k < n.next k.frm.toNat) = y := by rw [← hy]; unfold gotY; rw [hlead, hno]; rfl
      conv => whnf
      refine Or.inr ⟨[], sc49_9, by kernel_rfl, ?_⟩
      conv => whnf
      repeat (first | exact trivial | (refine ⟨by first | exact ⟨rfl, rfl, rfl⟩ | rfl | exact ⟨rfl, rfl⟩ | exact ⟨rfl, fun _ _ => rfl⟩ | exact fun _ _ h => h | (intro _ _ h; cases h; done) | exact hix | exact hix2, ?_⟩; conv => whnf))
      rw [hw1, hw2, hw3, hbk]
      refine Or.inr ⟨[], sc49_10, by kernel_rfl, ?_⟩
      conv => whnf
      repeat (first | exact trivial | (refine ⟨by first | exact ⟨rfl, rfl, rfl⟩ | rfl | exact ⟨rfl, rfl⟩ | exact ⟨rfl, fun _ _ => rfl⟩ | exact fun _ _ h => h | (intro _ _ h; cases h; done) | exact hix | exact hix2, ?_⟩; conv => whnf))
      rw [hy2]
      refine ⟨fun h1 => ?_, fun h0 => ?_⟩
      · subst h1
        have hback : backI n k < n.next k.frm.toNat := of_decide_eq_true hy2
        have hbp : 0 ≤ backI n k := by unfold backI; omega
        obtain ⟨b, hbe⟩ : ∃ b : Node, b = { n with next := fun j => if j = k.frm.toNat then backI n k else n.next j } := ⟨_, rfl⟩
        have hgn : b = gotN n k := by rw [hbe]; unfold gotN; rw [hlead, hno]; show _ = match decide (backI n k < n.next k.frm.toNat) with | true => _ | false => _; rw [hy2]
        have hbf : Fit b := by rw [hbe]; exact ⟨hs1, hs2, hm1, hm2, hb1, hb2, hl, hc1, hc2⟩
        have hbn : Near b k.frm := by
          refine ⟨hk1, by omega, ?_, ?_⟩
          · rw [hbe]; show 0 ≤ if k.frm.toNat = k.frm.toNat then _ else _; rw [if_pos rfl]; exact hbp
          · rw [hbe]; show (if k.frm.toNat = k.frm.toNat then _ else _) ≤ n.log.base + n.log.items.length + 1; rw [if_pos rfl]; omega
        conv => whnf
        refine Or.inr ⟨[], sc49_11, by kernel_rfl, ?_⟩
        conv => whnf
        repeat (first | exact trivial | (refine ⟨by first | exact ⟨rfl, rfl, rfl⟩ | rfl | exact ⟨rfl, rfl⟩ | exact ⟨rfl, fun _ _ => rfl⟩ | exact fun _ _ h => h | (intro _ _ h; cases h; done) | exact hix | exact hix2, ?_⟩; conv => whnf))
        intro A2 c2 m2 hS2
        have hcc2 : Cells m2 A2 (itemsV (b).log.items) := by rw [hbe]; exact .of_sealed hS2
        have hcap2 : (b).log.items.length ≤ c2 := by rw [hbe]; exact hS2.le
        refine ⟨⟨b, A2, c2, os, m2, k.frm⟩, ⟨hbf, hbn, ⟨hcc2, hcap2⟩, hsaid.ext hS2.ext, by show os.length < 900; omega⟩, ?_⟩
        conv => whnf
        repeat (first | exact trivial | (refine ⟨by first | exact ⟨rfl, rfl, rfl⟩ | rfl | exact ⟨rfl, rfl⟩ | exact ⟨rfl, fun _ _ => rfl⟩ | exact fun _ _ h => h | (intro _ _ h; cases h; done) | (rw [hbe]; done) | (rw [hbe]; exact ⟨rfl, rfl, rfl⟩) | (rw [hbe]; exact ⟨rfl, fun _ _ => rfl⟩), ?_⟩; conv => whnf))
        rintro ⟨os3, m3⟩ ⟨⟨o, rfl, hok, hof⟩, hsaid3, hext3⟩ m4 h5 h6
        have how : Own m m4 A2 ((b).log.items.length * 6) (os ++ [o]) := by rw [hbe]; exact own_of hS2 hsaid ((Since.refl os).snoc hok hof) (fun _ _ h => h) fun b x h => h6 b x (hext3 b x h)
        refine ⟨⟨b, A2, c2, os ++ [o], m4⟩, ⟨hgn, fun _ => ⟨(Since.refl os).snoc hok (hof.back hS2.ext), hsaid3.ext h6, hcc2.ext fun b x h => h6 b x (hext3 b x h), hcap2, how⟩, fun b x h => h5 b x (hS2.ext b x h)⟩, ?_⟩
        conv => whnf
        repeat (first | exact trivial | exact fun _ _ h => h | (refine ⟨by first | exact ⟨rfl, rfl, rfl⟩ | rfl | exact ⟨rfl, rfl⟩ | exact ⟨rfl, fun _ _ => rfl⟩ | exact fun _ _ h => h | (intro _ _ h; cases h; done) | exact fun b x h => h5 b x (hS2.ext b x h), ?_⟩; conv => whnf))
      · subst h0
        have hr : n = gotN n k := by unfold gotN; rw [hlead, hno]; show _ = match decide (backI n k < n.next k.frm.toNat) with | true => _ | false => _; rw [hy2]
        refine ⟨⟨n, none, 0, os, m⟩, ⟨hr, fun h => (by cases h), fun _ _ h => h⟩, ?_⟩
        conv => whnf
        repeat (first | exact trivial | exact fun _ _ h => h | (refine ⟨by first | exact ⟨rfl, rfl, rfl⟩ | rfl | exact ⟨rfl, rfl⟩ | exact ⟨rfl, fun _ _ => rfl⟩ | exact fun _ _ h => h | (intro _ _ h; cases h; done), ?_⟩; conv => whnf))
set_option maxRecDepth 100000 in
set_option maxHeartbeats 1600000 in
theorem refGot_ok : SpecOk Try.prog 57 (gotSpec 85 false) := by
  refine spec_of_exec (fn := Try.f57) (c := Try.f57.body.getD .skip) (d := 0) (lv := ([0, 1, 3, 4, 6, 7, 8, 21, 26, 36, 59, 102, 118, 131, 148])) (DP := DPx T1 (CPs S8) ([0, 1, 3, 4, 6, 7, 8, 21, 26, 36, 59, 102, 118, 131, 148])) T1_ok S8_ok (fun B => DPx_ok T1_ok ord S8_ok B) (gotSpec 85 false) (by rfl) (by rfl) (by rfl) (fun _ => Nat.le_of_ble_eq_true (by kernel_rfl)) ?_
  rintro ⟨n, os, m, k, D, e, y⟩ ⟨hf, hr, hcl, hmono, ⟨hk1, hk2, hk3, hk4⟩, hsaid, hos, hy, hany⟩
  obtain ⟨hs1, hs2, hm1, hm2, hb1, hb2, hl, hc1, hc2⟩ := hf
  have hf0 : Fit n := ⟨hs1, hs2, hm1, hm2, hb1, hb2, hl, hc1, hc2⟩
  have hlast : (lastN n.log).1 = lastI n := last_fit hf0
  have hli : lastI n = n.log.base + n.log.items.length := rfl
  have hkt : (k.frm.toNat : Int) < n.size := by omega
  obtain ⟨hn1, hn2⟩ := hr.nx _ hkt
  obtain ⟨ht1, ht2⟩ := hr.mt _ hkt
  have hix : 0 ≤ k.frm ∧ k.frm < ((7 : Nat) : Int) := ⟨hk1, by show k.frm < 7; omega⟩
  have hix2 : k.frm.toNat < 7 := by omega
  have hlead := hany rfl
  conv => whnf
  intro A' cap m' hS
  refine ⟨⟨n.log, A', cap, m'⟩, ⟨.of_sealed hS, by show n.log.items.length < 2 ^ 62; omega⟩, ?_⟩
  conv => whnf
  repeat (first | exact trivial | (refine ⟨by first | exact ⟨rfl, rfl, rfl⟩ | rfl | exact ⟨rfl, rfl⟩ | exact ⟨rfl, fun _ _ => rfl⟩ | exact fun _ _ h => h | (intro _ _ h; cases h; done), ?_⟩; conv => whnf))
  intro _ _
  conv => whnf
  rw [hlast]
  refine ⟨fun hyes => ?_, fun hno => ?_⟩
  · have hfar : 0 ≤ farI n k ∧ farI n k ≤ lastI n := by unfold farI; omega
    have hw1 : IntKind.i64.wrap (farI n k + 1) = farI n k + 1 := wrapi ⟨by omega, by omega⟩
    refine ⟨fun hA => ?_, fun hA => ?_⟩
    conv => whnf
    · have hA : k.last > lastI n := of_decide_eq_true hA
      conv => whnf
      repeat (first | exact trivial | (refine ⟨by first | exact ⟨rfl, rfl, rfl⟩ | rfl | exact ⟨rfl, rfl⟩ | exact ⟨rfl, fun _ _ => rfl⟩ | exact fun _ _ h => h | (intro _ _ h; cases h; done) | exact hix | exact hix2, ?_⟩; conv => whnf))
      refine ⟨fun hB => ?_, fun hB => ?_⟩
      · have hB : lastI n > n.mat k.frm.toNat := of_decide_eq_true hB
        have hmf : lastI n = farI n k := by unfold farI; omega
        have hmat : ∀ j, (if j = k.frm.toNat then lastI n else n.mat j) = (hearN n k).mat j := fun j => by rw [hmf]; rfl
        have hV : (if k.frm.toNat = k.frm.toNat then lastI n else n.mat k.frm.toNat) = farI n k := by rw [if_pos rfl, hmf]
        conv => whnf
        repeat (first | exact trivial | (refine ⟨by first | exact ⟨rfl, rfl, rfl⟩ | rfl | exact ⟨rfl, rfl⟩ | exact ⟨rfl, fun _ _ => rfl⟩ | exact fun _ _ h => h | (intro _ _ h; cases h; done) | exact hix | exact hix2, ?_⟩; conv => whnf))
        conv => whnf
        refine Or.inr ⟨[], sc57_9, by kernel_rfl, ?_⟩
        conv => whnf
        repeat (first | exact trivial | (refine ⟨by first | exact ⟨rfl, rfl, rfl⟩ | rfl | exact ⟨rfl, rfl⟩ | exact ⟨rfl, fun _ _ => rfl⟩ | exact fun _ _ h => h | (intro _ _ h; cases h; done) | exact hix | exact hix2, ?_⟩; conv => whnf))
        refine ⟨fun hC => ?_, fun hC => ?_⟩
        · have hC : n.next k.frm.toNat < farI n k + 1 := by
            have h : n.next k.frm.toNat < IntKind.i64.wrap ((if k.frm.toNat = k.frm.toNat then lastI n else n.mat k.frm.toNat) + 1) := of_decide_eq_true hC
            rwa [hV, hw1] at h
          conv => whnf
          refine Or.inr ⟨[], sc57_10, by kernel_rfl, ?_⟩
          conv => whnf
          repeat (first | exact trivial | (refine ⟨by first | exact ⟨rfl, rfl, rfl⟩ | rfl | exact ⟨rfl, rfl⟩ | exact ⟨rfl, fun _ _ => rfl⟩ | exact fun _ _ h => h | (intro _ _ h; cases h; done) | exact hix | exact hix2, ?_⟩; conv => whnf))
          have hnext : ∀ j, (if j = k.frm.toNat then IntKind.i64.wrap ((if k.frm.toNat = k.frm.toNat then lastI n else n.mat k.frm.toNat) + 1) else n.next j) = (hearN n k).next j := fun j => by
            show _ = if j = k.frm.toNat then max (n.next k.frm.toNat) (farI n k + 1) else n.next j
            rw [hV, hw1]
            split
            · omega
            · rfl
          have hgn' : gotN n k = { hearN n k with commit := commitN (hearN n k) } := by unfold gotN; rw [hlead, hyes]
          refine ⟨⟨hearN n k, .own, os, m⟩, ⟨⟨hs1, hs2, hm1, hm2, hb1, hb2, hl, hc1, hc2⟩, hmono, trivial⟩, ?_⟩
          conv => whnf
          repeat (first | exact trivial | (refine ⟨by first | exact ⟨rfl, rfl, rfl⟩ | rfl | exact ⟨rfl, rfl⟩ | exact ⟨rfl, fun _ _ => rfl⟩ | exact fun _ _ h => h | (intro _ _ h; cases h; done) | exact ⟨rfl, fun j _ => hmat j⟩ | exact ⟨rfl, fun j _ => hnext j⟩, ?_⟩; conv => whnf))
          intro b hb
          have hgn : b = gotN n k := hgn' ▸ hb
          have hbm : b.mat k.frm.toNat = farI n k := by rw [hb]; exact if_pos rfl
          have hbx : b.next k.frm.toNat = max (n.next k.frm.toNat) (farI n k + 1) := by rw [hb]; exact if_pos rfl
          have hy2 : (if decide (farI n k < lastI n) = true then (max (n.next k.frm.toNat) (farI n k + 1) == farI n k + 1) else false) = y := by
            rw [ifand, ← hy]; unfold gotY; rw [hlead, hyes]; rfl
          have hbf : Fit b := by rw [hb]; exact hear_fit hf0 hcl
          have hbn : Near b k.frm := by
            refine ⟨hk1, by omega, ?_, ?_⟩
            · rw [hbx]; omega
            · rw [hbx, hb]; show _ ≤ n.log.base + n.log.items.length + 1; omega
          conv => whnf
          refine Or.inr ⟨[], sc57_12, by kernel_rfl, ?_⟩
          conv => whnf
          repeat (first | exact trivial | (refine ⟨by first | exact ⟨rfl, rfl, rfl⟩ | rfl | exact ⟨rfl, rfl⟩ | exact ⟨rfl, fun _ _ => rfl⟩ | exact fun _ _ h => h | (intro _ _ h; cases h; done) | exact hix | exact hix2 | exact fun _ => hix | exact fun _ => hix2, ?_⟩; conv => whnf))
          rw [hbm, hbx, hw1, hy2]
          refine ⟨fun h1 => ?_, fun h0 => ?_⟩
          · subst h1
            conv => whnf
            intro A2 c2 m2 hS2
            have hcc2 : Cells m2 A2 (itemsV (b).log.items) := .of_sealed hS2
            refine ⟨⟨b, A2, c2, os, m2, k.frm⟩, ⟨hbf, hbn, ⟨hcc2, hS2.le⟩, hsaid.ext hS2.ext, by show os.length < 900; omega⟩, ?_⟩
            conv => whnf
            repeat (first | exact trivial | (refine ⟨by first | exact ⟨rfl, rfl, rfl⟩ | rfl | exact ⟨rfl, rfl⟩ | exact ⟨rfl, fun _ _ => rfl⟩ | exact fun _ _ h => h | (intro _ _ h; cases h; done), ?_⟩; conv => whnf))
            rintro ⟨os3, m3⟩ ⟨⟨o, rfl, hok, hof⟩, hsaid3, hext3⟩ m4 h5 h6
            have how := own_of hS2 hsaid ((Since.refl os).snoc hok hof) (fun _ _ h => h) fun b x h => h6 b x (hext3 b x h)
            refine ⟨⟨b, A2, c2, os ++ [o], m4⟩, ⟨hgn, fun _ => ⟨(Since.refl os).snoc hok (hof.back hS2.ext), hsaid3.ext h6, hcc2.ext fun b x h => h6 b x (hext3 b x h), hS2.le, how⟩, fun b x h => h5 b x (hS2.ext b x h)⟩, ?_⟩
            conv => whnf
            repeat (first | exact trivial | exact fun _ _ h => h | (refine ⟨by first | exact ⟨rfl, rfl, rfl⟩ | rfl | exact ⟨rfl, rfl⟩ | exact ⟨rfl, fun _ _ => rfl⟩ | exact fun _ _ h => h | (intro _ _ h; cases h; done) | exact fun b x h => h5 b x (hS2.ext b x h), ?_⟩; conv => whnf))
          · subst h0
            refine ⟨⟨b, none, 0, os, m⟩, ⟨hgn, fun h => (by cases h), fun _ _ h => h⟩, ?_⟩
            conv => whnf
            repeat (first | exact trivial | exact fun _ _ h => h | (refine ⟨by first | exact ⟨rfl, rfl, rfl⟩ | rfl | exact ⟨rfl, rfl⟩ | exact ⟨rfl, fun _ _ => rfl⟩ | exact fun _ _ h => h | (intro _ _ h; cases h; done), ?_⟩; conv => whnf))
        · have hC : ¬ n.next k.frm.toNat < farI n k + 1 := by
            have h : ¬ n.next k.frm.toNat < IntKind.i64.wrap ((if k.frm.toNat = k.frm.toNat then lastI n else n.mat k.frm.toNat) + 1) := of_decide_eq_false hC
            rwa [hV, hw1] at h
          have hnext : ∀ j, n.next j = (hearN n k).next j := fun j => by
            show _ = if j = k.frm.toNat then max (n.next k.frm.toNat) (farI n k + 1) else n.next j
            split
            · rename_i hj; rw [hj]; omega
            · rfl
          conv => whnf
          have hgn' : gotN n k = { hearN n k with commit := commitN (hearN n k) } := by unfold gotN; rw [hlead, hyes]
          refine ⟨⟨hearN n k, .own, os, m⟩, ⟨⟨hs1, hs2, hm1, hm2, hb1, hb2, hl, hc1, hc2⟩, hmono, trivial⟩, ?_⟩
          conv => whnf
          repeat (first | exact trivial | (refine ⟨by first | exact ⟨rfl, rfl, rfl⟩ | rfl | exact ⟨rfl, rfl⟩ | exact ⟨rfl, fun _ _ => rfl⟩ | exact fun _ _ h => h | (intro _ _ h; cases h; done) | exact ⟨rfl, fun j _ => hmat j⟩ | exact ⟨rfl, fun j _ => hnext j⟩, ?_⟩; conv => whnf))
          intro b hb
          have hgn : b = gotN n k := hgn' ▸ hb
          have hbm : b.mat k.frm.toNat = farI n k := by rw [hb]; exact if_pos rfl
          have hbx : b.next k.frm.toNat = max (n.next k.frm.toNat) (farI n k + 1) := by rw [hb]; exact if_pos rfl
          have hy2 : (if decide (farI n k < lastI n) = true then (max (n.next k.frm.toNat) (farI n k + 1) == farI n k + 1) else false) = y := by
            rw [ifand, ← hy]; unfold gotY; rw [hlead, hyes]; rfl
          have hbf : Fit b := by rw [hb]; exact hear_fit hf0 hcl
          have hbn : Near b k.frm := by
            refine ⟨hk1, by omega, ?_, ?_⟩
            · rw [hbx]; omega
            · rw [hbx, hb]; show _ ≤ n.log.base + n.log.items.length + 1; omega
          conv => whnf
          refine Or.inr ⟨[], sc57_12, by kernel_rfl, ?_⟩
          conv => whnf
          repeat (first | exact trivial | (refine ⟨by first | exact ⟨rfl, rfl, rfl⟩ | rfl | exact ⟨rfl, rfl⟩ | exact ⟨rfl, fun _ _ => rfl⟩ | exact fun _ _ h => h | (intro _ _ h; cases h; done) | exact hix | exact hix2 | exact fun _ => hix | exact fun _ => hix2, ?_⟩; conv => whnf))
          rw [hbm, hbx, hw1, hy2]
          refine ⟨fun h1 => ?_, fun h0 => ?_⟩
          · subst h1
            conv => whnf
            intro A2 c2 m2 hS2
            have hcc2 : Cells m2 A2 (itemsV (b).log.items) := .of_sealed hS2
            refine ⟨⟨b, A2, c2, os, m2, k.frm⟩, ⟨hbf, hbn, ⟨hcc2, hS2.le⟩, hsaid.ext hS2.ext, by show os.length < 900; omega⟩, ?_⟩
            conv => whnf
            repeat (first | exact trivial | (refine ⟨by first | exact ⟨rfl, rfl, rfl⟩ | rfl | exact ⟨rfl, rfl⟩ | exact ⟨rfl, fun _ _ => rfl⟩ | exact fun _ _ h => h | (intro _ _ h; cases h; done), ?_⟩; conv => whnf))
            rintro ⟨os3, m3⟩ ⟨⟨o, rfl, hok, hof⟩, hsaid3, hext3⟩ m4 h5 h6
            have how := own_of hS2 hsaid ((Since.refl os).snoc hok hof) (fun _ _ h => h) fun b x h => h6 b x (hext3 b x h)
            refine ⟨⟨b, A2, c2, os ++ [o], m4⟩, ⟨hgn, fun _ => ⟨(Since.refl os).snoc hok (hof.back hS2.ext), hsaid3.ext h6, hcc2.ext fun b x h => h6 b x (hext3 b x h), hS2.le, how⟩, fun b x h => h5 b x (hS2.ext b x h)⟩, ?_⟩
            conv => whnf
            repeat (first | exact trivial | exact fun _ _ h => h | (refine ⟨by first | exact ⟨rfl, rfl, rfl⟩ | rfl | exact ⟨rfl, rfl⟩ | exact ⟨rfl, fun _ _ => rfl⟩ | exact fun _ _ h => h | (intro _ _ h; cases h; done) | exact fun b x h => h5 b x (hS2.ext b x h), ?_⟩; conv => whnf))
          · subst h0
            refine ⟨⟨b, none, 0, os, m⟩, ⟨hgn, fun h => (by cases h), fun _ _ h => h⟩, ?_⟩
            conv => whnf
            repeat (first | exact trivial | exact fun _ _ h => h | (refine ⟨by first | exact ⟨rfl, rfl, rfl⟩ | rfl | exact ⟨rfl, rfl⟩ | exact ⟨rfl, fun _ _ => rfl⟩ | exact fun _ _ h => h | (intro _ _ h; cases h; done), ?_⟩; conv => whnf))
      · have hB : ¬ lastI n > n.mat k.frm.toNat := of_decide_eq_false hB
        have hV : n.mat k.frm.toNat = farI n k := by unfold farI; omega
        have hmat : ∀ j, n.mat j = (hearN n k).mat j := fun j => by
          show _ = if j = k.frm.toNat then farI n k else n.mat j
          split
          · rename_i hj; rw [hj]; exact hV
          · rfl
        conv => whnf
        refine Or.inr ⟨[], sc57_9, by kernel_rfl, ?_⟩
        conv => whnf
        repeat (first | exact trivial | (refine ⟨by first | exact ⟨rfl, rfl, rfl⟩ | rfl | exact ⟨rfl, rfl⟩ | exact ⟨rfl, fun _ _ => rfl⟩ | exact fun _ _ h => h | (intro _ _ h; cases h; done) | exact hix | exact hix2, ?_⟩; conv => whnf))
        refine ⟨fun hC => ?_, fun hC => ?_⟩
        · have hC : n.next k.frm.toNat < farI n k + 1 := by
            have h : n.next k.frm.toNat < IntKind.i64.wrap (n.mat k.frm.toNat + 1) := of_decide_eq_true hC
            rwa [hV, hw1] at h
          conv => whnf
          refine Or.inr ⟨[], sc57_10, by kernel_rfl, ?_⟩
          conv => whnf
          repeat (first | exact trivial | (refine ⟨by first | exact ⟨rfl, rfl, rfl⟩ | rfl | exact ⟨rfl, rfl⟩ | exact ⟨rfl, fun _ _ => rfl⟩ | exact fun _ _ h => h | (intro _ _ h; cases h; done) | exact hix | exact hix2, ?_⟩; conv => whnf))
          have hnext : ∀ j, (if j = k.frm.toNat then IntKind.i64.wrap (n.mat k.frm.toNat + 1) else n.next j) = (hearN n k).next j := fun j => by
            show _ = if j = k.frm.toNat then max (n.next k.frm.toNat) (farI n k + 1) else n.next j
            rw [hV, hw1]
            split
            · omega
            · rfl
          have hgn' : gotN n k = { hearN n k with commit := commitN (hearN n k) } := by unfold gotN; rw [hlead, hyes]
          refine ⟨⟨hearN n k, .own, os, m⟩, ⟨⟨hs1, hs2, hm1, hm2, hb1, hb2, hl, hc1, hc2⟩, hmono, trivial⟩, ?_⟩
          conv => whnf
          repeat (first | exact trivial | (refine ⟨by first | exact ⟨rfl, rfl, rfl⟩ | rfl | exact ⟨rfl, rfl⟩ | exact ⟨rfl, fun _ _ => rfl⟩ | exact fun _ _ h => h | (intro _ _ h; cases h; done) | exact ⟨rfl, fun j _ => hmat j⟩ | exact ⟨rfl, fun j _ => hnext j⟩, ?_⟩; conv => whnf))
          intro b hb
          have hgn : b = gotN n k := hgn' ▸ hb
          have hbm : b.mat k.frm.toNat = farI n k := by rw [hb]; exact if_pos rfl
          have hbx : b.next k.frm.toNat = max (n.next k.frm.toNat) (farI n k + 1) := by rw [hb]; exact if_pos rfl
          have hy2 : (if decide (farI n k < lastI n) = true then (max (n.next k.frm.toNat) (farI n k + 1) == farI n k + 1) else false) = y := by
            rw [ifand, ← hy]; unfold gotY; rw [hlead, hyes]; rfl
          have hbf : Fit b := by rw [hb]; exact hear_fit hf0 hcl
          have hbn : Near b k.frm := by
            refine ⟨hk1, by omega, ?_, ?_⟩
            · rw [hbx]; omega
            · rw [hbx, hb]; show _ ≤ n.log.base + n.log.items.length + 1; omega
          conv => whnf
          refine Or.inr ⟨[], sc57_12, by kernel_rfl, ?_⟩
          conv => whnf
          repeat (first | exact trivial | (refine ⟨by first | exact ⟨rfl, rfl, rfl⟩ | rfl | exact ⟨rfl, rfl⟩ | exact ⟨rfl, fun _ _ => rfl⟩ | exact fun _ _ h => h | (intro _ _ h; cases h; done) | exact hix | exact hix2 | exact fun _ => hix | exact fun _ => hix2, ?_⟩; conv => whnf))
          rw [hbm, hbx, hw1, hy2]
          refine ⟨fun h1 => ?_, fun h0 => ?_⟩
          · subst h1
            conv => whnf
            intro A2 c2 m2 hS2
            have hcc2 : Cells m2 A2 (itemsV (b).log.items) := .of_sealed hS2
            refine ⟨⟨b, A2, c2, os, m2, k.frm⟩, ⟨hbf, hbn, ⟨hcc2, hS2.le⟩, hsaid.ext hS2.ext, by show os.length < 900; omega⟩, ?_⟩
            conv => whnf
            repeat (first | exact trivial | (refine ⟨by first | exact ⟨rfl, rfl, rfl⟩ | rfl | exact ⟨rfl, rfl⟩ | exact ⟨rfl, fun _ _ => rfl⟩ | exact fun _ _ h => h | (intro _ _ h; cases h; done), ?_⟩; conv => whnf))
            rintro ⟨os3, m3⟩ ⟨⟨o, rfl, hok, hof⟩, hsaid3, hext3⟩ m4 h5 h6
            have how := own_of hS2 hsaid ((Since.refl os).snoc hok hof) (fun _ _ h => h) fun b x h => h6 b x (hext3 b x h)
            refine ⟨⟨b, A2, c2, os ++ [o], m4⟩, ⟨hgn, fun _ => ⟨(Since.refl os).snoc hok (hof.back hS2.ext), hsaid3.ext h6, hcc2.ext fun b x h => h6 b x (hext3 b x h), hS2.le, how⟩, fun b x h => h5 b x (hS2.ext b x h)⟩, ?_⟩
            conv => whnf
            repeat (first | exact trivial | exact fun _ _ h => h | (refine ⟨by first | exact ⟨rfl, rfl, rfl⟩ | rfl | exact ⟨rfl, rfl⟩ | exact ⟨rfl, fun _ _ => rfl⟩ | exact fun _ _ h => h | (intro _ _ h; cases h; done) | exact fun b x h => h5 b x (hS2.ext b x h), ?_⟩; conv => whnf))
          · subst h0
            refine ⟨⟨b, none, 0, os, m⟩, ⟨hgn, fun h => (by cases h), fun _ _ h => h⟩, ?_⟩
            conv => whnf
            repeat (first | exact trivial | exact fun _ _ h => h | (refine ⟨by first | exact ⟨rfl, rfl, rfl⟩ | rfl | exact ⟨rfl, rfl⟩ | exact ⟨rfl, fun _ _ => rfl⟩ | exact fun _ _ h => h | (intro _ _ h; cases h; done), ?_⟩; conv => whnf))
        · have hC : ¬ n.next k.frm.toNat < farI n k + 1 := by
            have h : ¬ n.next k.frm.toNat < IntKind.i64.wrap (n.mat k.frm.toNat + 1) := of_decide_eq_false hC
            rwa [hV, hw1] at h
          have hnext : ∀ j, n.next j = (hearN n k).next j := fun j => by
            show _ = if j = k.frm.toNat then max (n.next k.frm.toNat) (farI n k + 1) else n.next j
            split
            · rename_i hj; rw [hj]; omega
            · rfl
          conv => whnf
          have hgn' : gotN n k = { hearN n k with commit := commitN (hearN n k) } := by unfold gotN; rw [hlead, hyes]
          refine ⟨⟨hearN n k, .own, os, m⟩, ⟨⟨hs1, hs2, hm1, hm2, hb1, hb2, hl, hc1, hc2⟩, hmono, trivial⟩, ?_⟩
          conv => whnf
          repeat (first | exact trivial | (refine ⟨by first | exact ⟨rfl, rfl, rfl⟩ | rfl | exact ⟨rfl, rfl⟩ | exact ⟨rfl, fun _ _ => rfl⟩ | exact fun _ _ h => h | (intro _ _ h; cases h; done) | exact ⟨rfl, fun j _ => hmat j⟩ | exact ⟨rfl, fun j _ => hnext j⟩, ?_⟩; conv => whnf))
          intro b hb
          have hgn : b = gotN n k := hgn' ▸ hb
          have hbm : b.mat k.frm.toNat = farI n k := by rw [hb]; exact if_pos rfl
          have hbx : b.next k.frm.toNat = max (n.next k.frm.toNat) (farI n k + 1) := by rw [hb]; exact if_pos rfl
          have hy2 : (if decide (farI n k < lastI n) = true then (max (n.next k.frm.toNat) (farI n k + 1) == farI n k + 1) else false) = y := by
            rw [ifand, ← hy]; unfold gotY; rw [hlead, hyes]; rfl
          have hbf : Fit b := by rw [hb]; exact hear_fit hf0 hcl
          have hbn : Near b k.frm := by
            refine ⟨hk1, by omega, ?_, ?_⟩
            · rw [hbx]; omega
            · rw [hbx, hb]; show _ ≤ n.log.base + n.log.items.length + 1; omega
          conv => whnf
          refine Or.inr ⟨[], sc57_12, by kernel_rfl, ?_⟩
          conv => whnf
          repeat (first | exact trivial | (refine ⟨by first | exact ⟨rfl, rfl, rfl⟩ | rfl | exact ⟨rfl, rfl⟩ | exact ⟨rfl, fun _ _ => rfl⟩ | exact fun _ _ h => h | (intro _ _ h; cases h; done) | exact hix | exact hix2 | exact fun _ => hix | exact fun _ => hix2, ?_⟩; conv => whnf))
          rw [hbm, hbx, hw1, hy2]
          refine ⟨fun h1 => ?_, fun h0 => ?_⟩
          · subst h1
            conv => whnf
            intro A2 c2 m2 hS2
            have hcc2 : Cells m2 A2 (itemsV (b).log.items) := .of_sealed hS2
            refine ⟨⟨b, A2, c2, os, m2, k.frm⟩, ⟨hbf, hbn, ⟨hcc2, hS2.le⟩, hsaid.ext hS2.ext, by show os.length < 900; omega⟩, ?_⟩
            conv => whnf
            repeat (first | exact trivial | (refine ⟨by first | exact ⟨rfl, rfl, rfl⟩ | rfl | exact ⟨rfl, rfl⟩ | exact ⟨rfl, fun _ _ => rfl⟩ | exact fun _ _ h => h | (intro _ _ h; cases h; done), ?_⟩; conv => whnf))
            rintro ⟨os3, m3⟩ ⟨⟨o, rfl, hok, hof⟩, hsaid3, hext3⟩ m4 h5 h6
            have how := own_of hS2 hsaid ((Since.refl os).snoc hok hof) (fun _ _ h => h) fun b x h => h6 b x (hext3 b x h)
            refine ⟨⟨b, A2, c2, os ++ [o], m4⟩, ⟨hgn, fun _ => ⟨(Since.refl os).snoc hok (hof.back hS2.ext), hsaid3.ext h6, hcc2.ext fun b x h => h6 b x (hext3 b x h), hS2.le, how⟩, fun b x h => h5 b x (hS2.ext b x h)⟩, ?_⟩
            conv => whnf
            repeat (first | exact trivial | exact fun _ _ h => h | (refine ⟨by first | exact ⟨rfl, rfl, rfl⟩ | rfl | exact ⟨rfl, rfl⟩ | exact ⟨rfl, fun _ _ => rfl⟩ | exact fun _ _ h => h | (intro _ _ h; cases h; done) | exact fun b x h => h5 b x (hS2.ext b x h), ?_⟩; conv => whnf))
          · subst h0
            refine ⟨⟨b, none, 0, os, m⟩, ⟨hgn, fun h => (by cases h), fun _ _ h => h⟩, ?_⟩
            conv => whnf
            repeat (first | exact trivial | exact fun _ _ h => h | (refine ⟨by first | exact ⟨rfl, rfl, rfl⟩ | rfl | exact ⟨rfl, rfl⟩ | exact ⟨rfl, fun _ _ => rfl⟩ | exact fun _ _ h => h | (intro _ _ h; cases h; done), ?_⟩; conv => whnf))
    · have hA : ¬ k.last > lastI n := of_decide_eq_false hA
      conv => whnf
      repeat (first | exact trivial | (refine ⟨by first | exact ⟨rfl, rfl, rfl⟩ | rfl | exact ⟨rfl, rfl⟩ | exact ⟨rfl, fun _ _ => rfl⟩ | exact fun _ _ h => h | (intro _ _ h; cases h; done) | exact hix | exact hix2, ?_⟩; conv => whnf))
      refine ⟨fun hB => ?_, fun hB => ?_⟩
      · have hB : k.last > n.mat k.frm.toNat := of_decide_eq_true hB
        have hmf : k.last = farI n k := by unfold farI; omega
        have hmat : ∀ j, (if j = k.frm.toNat then k.last else n.mat j) = (hearN n k).mat j := fun j => by rw [hmf]; rfl
        have hV : (if k.frm.toNat = k.frm.toNat then k.last else n.mat k.frm.toNat) = farI n k := by rw [if_pos rfl, hmf]
        conv => whnf
        repeat (first | exact trivial | (refine ⟨by first | exact ⟨rfl, rfl, rfl⟩ | rfl | exact ⟨rfl, rfl⟩ | exact ⟨rfl, fun _ _ => rfl⟩ | exact fun _ _ h => h | (intro _ _ h; cases h; done) | exact hix | exact hix2, ?_⟩; conv => whnf))
        conv => whnf
        refine Or.inr ⟨[], sc57_9, by kernel_rfl, ?_⟩
        conv => whnf
        repeat (first | exact trivial | (refine ⟨by first | exact ⟨rfl, rfl, rfl⟩ | rfl | exact ⟨rfl, rfl⟩ | exact ⟨rfl, fun _ _ => rfl⟩ | exact fun _ _ h => h | (intro _ _ h; cases h; done) | exact hix | exact hix2, ?_⟩; conv => whnf))
        refine ⟨fun hC => ?_, fun hC => ?_⟩
        · have hC : n.next k.frm.toNat < farI n k + 1 := by
            have h : n.next k.frm.toNat < IntKind.i64.wrap ((if k.frm.toNat = k.frm.toNat then k.last else n.mat k.frm.toNat) + 1) := of_decide_eq_true hC
            rwa [hV, hw1] at h
          conv => whnf
          refine Or.inr ⟨[], sc57_10, by kernel_rfl, ?_⟩
          conv => whnf
          repeat (first | exact trivial | (refine ⟨by first | exact ⟨rfl, rfl, rfl⟩ | rfl | exact ⟨rfl, rfl⟩ | exact ⟨rfl, fun _ _ => rfl⟩ | exact fun _ _ h => h | (intro _ _ h; cases h; done) | exact hix | exact hix2, ?_⟩; conv => whnf))
          have hnext : ∀ j, (if j = k.frm.toNat then IntKind.i64.wrap ((if k.frm.toNat = k.frm.toNat then k.last else n.mat k.frm.toNat) + 1) else n.next j) = (hearN n k).next j := fun j => by
            show _ = if j = k.frm.toNat then max (n.next k.frm.toNat) (farI n k + 1) else n.next j
            rw [hV, hw1]
            split
            · omega
            · rfl
          have hgn' : gotN n k = { hearN n k with commit := commitN (hearN n k) } := by unfold gotN; rw [hlead, hyes]
          refine ⟨⟨hearN n k, .own, os, m⟩, ⟨⟨hs1, hs2, hm1, hm2, hb1, hb2, hl, hc1, hc2⟩, hmono, trivial⟩, ?_⟩
          conv => whnf
          repeat (first | exact trivial | (refine ⟨by first | exact ⟨rfl, rfl, rfl⟩ | rfl | exact ⟨rfl, rfl⟩ | exact ⟨rfl, fun _ _ => rfl⟩ | exact fun _ _ h => h | (intro _ _ h; cases h; done) | exact ⟨rfl, fun j _ => hmat j⟩ | exact ⟨rfl, fun j _ => hnext j⟩, ?_⟩; conv => whnf))
          intro b hb
          have hgn : b = gotN n k := hgn' ▸ hb
          have hbm : b.mat k.frm.toNat = farI n k := by rw [hb]; exact if_pos rfl
          have hbx : b.next k.frm.toNat = max (n.next k.frm.toNat) (farI n k + 1) := by rw [hb]; exact if_pos rfl
          have hy2 : (if decide (farI n k < lastI n) = true then (max (n.next k.frm.toNat) (farI n k + 1) == farI n k + 1) else false) = y := by
            rw [ifand, ← hy]; unfold gotY; rw [hlead, hyes]; rfl
          have hbf : Fit b := by rw [hb]; exact hear_fit hf0 hcl
          have hbn : Near b k.frm := by
            refine ⟨hk1, by omega, ?_, ?_⟩
            · rw [hbx]; omega
            · rw [hbx, hb]; show _ ≤ n.log.base + n.log.items.length + 1; omega
          conv => whnf
          refine Or.inr ⟨[], sc57_12, by kernel_rfl, ?_⟩
          conv => whnf
          repeat (first | exact trivial | (refine ⟨by first | exact ⟨rfl, rfl, rfl⟩ | rfl | exact ⟨rfl, rfl⟩ | exact ⟨rfl, fun _ _ => rfl⟩ | exact fun _ _ h => h | (intro _ _ h; cases h; done) | exact hix | exact hix2 | exact fun _ => hix | exact fun _ => hix2, ?_⟩; conv => whnf))
          rw [hbm, hbx, hw1, hy2]
          refine ⟨fun h1 => ?_, fun h0 => ?_⟩
          · subst h1
            conv => whnf
            intro A2 c2 m2 hS2
            have hcc2 : Cells m2 A2 (itemsV (b).log.items) := .of_sealed hS2
            refine ⟨⟨b, A2, c2, os, m2, k.frm⟩, ⟨hbf, hbn, ⟨hcc2, hS2.le⟩, hsaid.ext hS2.ext, by show os.length < 900; omega⟩, ?_⟩
            conv => whnf
            repeat (first | exact trivial | (refine ⟨by first | exact ⟨rfl, rfl, rfl⟩ | rfl | exact ⟨rfl, rfl⟩ | exact ⟨rfl, fun _ _ => rfl⟩ | exact fun _ _ h => h | (intro _ _ h; cases h; done), ?_⟩; conv => whnf))
            rintro ⟨os3, m3⟩ ⟨⟨o, rfl, hok, hof⟩, hsaid3, hext3⟩ m4 h5 h6
            have how := own_of hS2 hsaid ((Since.refl os).snoc hok hof) (fun _ _ h => h) fun b x h => h6 b x (hext3 b x h)
            refine ⟨⟨b, A2, c2, os ++ [o], m4⟩, ⟨hgn, fun _ => ⟨(Since.refl os).snoc hok (hof.back hS2.ext), hsaid3.ext h6, hcc2.ext fun b x h => h6 b x (hext3 b x h), hS2.le, how⟩, fun b x h => h5 b x (hS2.ext b x h)⟩, ?_⟩
            conv => whnf
            repeat (first | exact trivial | exact fun _ _ h => h | (refine ⟨by first | exact ⟨rfl, rfl, rfl⟩ | rfl | exact ⟨rfl, rfl⟩ | exact ⟨rfl, fun _ _ => rfl⟩ | exact fun _ _ h => h | (intro _ _ h; cases h; done) | exact fun b x h => h5 b x (hS2.ext b x h), ?_⟩; conv => whnf))
          · subst h0
            refine ⟨⟨b, none, 0, os, m⟩, ⟨hgn, fun h => (by cases h), fun _ _ h => h⟩, ?_⟩
            conv => whnf
            repeat (first | exact trivial | exact fun _ _ h => h | (refine ⟨by first | exact ⟨rfl, rfl, rfl⟩ | rfl | exact ⟨rfl, rfl⟩ | exact ⟨rfl, fun _ _ => rfl⟩ | exact fun _ _ h => h | (intro _ _ h; cases h; done), ?_⟩; conv => whnf))
        · have hC : ¬ n.next k.frm.toNat < farI n k + 1 := by
            have h : ¬ n.next k.frm.toNat < IntKind.i64.wrap ((if k.frm.toNat = k.frm.toNat then k.last else n.mat k.frm.toNat) + 1) := of_decide_eq_false hC
            rwa [hV, hw1] at h
          have hnext : ∀ j, n.next j = (hearN n k).next j := fun j => by
            show _ = if j = k.frm.toNat then max (n.next k.frm.toNat) (farI n k + 1) else n.next j
            split
            · rename_i hj; rw [hj]; omega
            · rfl
          conv => whnf
          have hgn' : gotN n k = { hearN n k with commit := commitN (hearN n k) } := by unfold gotN; rw [hlead, hyes]
          refine ⟨⟨hearN n k, .own, os, m⟩, ⟨⟨hs1, hs2, hm1, hm2, hb1, hb2, hl, hc1, hc2⟩, hmono, trivial⟩, ?_⟩
          conv => whnf
          repeat (first | exact trivial | (refine ⟨by first | exact ⟨rfl, rfl, rfl⟩ | rfl | exact ⟨rfl, rfl⟩ | exact ⟨rfl, fun _ _ => rfl⟩ | exact fun _ _ h => h | (intro _ _ h; cases h; done) | exact ⟨rfl, fun j _ => hmat j⟩ | exact ⟨rfl, fun j _ => hnext j⟩, ?_⟩; conv => whnf))
          intro b hb
          have hgn : b = gotN n k := hgn' ▸ hb
          have hbm : b.mat k.frm.toNat = farI n k := by rw [hb]; exact if_pos rfl
          have hbx : b.next k.frm.toNat = max (n.next k.frm.toNat) (farI n k + 1) := by rw [hb]; exact if_pos rfl
          have hy2 : (if decide (farI n k < lastI n) = true then (max (n.next k.frm.toNat) (farI n k + 1) == farI n k + 1) else false) = y := by
            rw [ifand, ← hy]; unfold gotY; rw [hlead, hyes]; rfl
          have hbf : Fit b := by rw [hb]; exact hear_fit hf0 hcl
          have hbn : Near b k.frm := by
            refine ⟨hk1, by omega, ?_, ?_⟩
            · rw [hbx]; omega
            · rw [hbx, hb]; show _ ≤ n.log.base + n.log.items.length + 1; omega
          conv => whnf
          refine Or.inr ⟨[], sc57_12, by kernel_rfl, ?_⟩
          conv => whnf
          repeat (first | exact trivial | (refine ⟨by first | exact ⟨rfl, rfl, rfl⟩ | rfl | exact ⟨rfl, rfl⟩ | exact ⟨rfl, fun _ _ => rfl⟩ | exact fun _ _ h => h | (intro _ _ h; cases h; done) | exact hix | exact hix2 | exact fun _ => hix | exact fun _ => hix2, ?_⟩; conv => whnf))
          rw [hbm, hbx, hw1, hy2]
          refine ⟨fun h1 => ?_, fun h0 => ?_⟩
          · subst h1
            conv => whnf
            intro A2 c2 m2 hS2
            have hcc2 : Cells m2 A2 (itemsV (b).log.items) := .of_sealed hS2
            refine ⟨⟨b, A2, c2, os, m2, k.frm⟩, ⟨hbf, hbn, ⟨hcc2, hS2.le⟩, hsaid.ext hS2.ext, by show os.length < 900; omega⟩, ?_⟩
            conv => whnf
            repeat (first | exact trivial | (refine ⟨by first | exact ⟨rfl, rfl, rfl⟩ | rfl | exact ⟨rfl, rfl⟩ | exact ⟨rfl, fun _ _ => rfl⟩ | exact fun _ _ h => h | (intro _ _ h; cases h; done), ?_⟩; conv => whnf))
            rintro ⟨os3, m3⟩ ⟨⟨o, rfl, hok, hof⟩, hsaid3, hext3⟩ m4 h5 h6
            have how := own_of hS2 hsaid ((Since.refl os).snoc hok hof) (fun _ _ h => h) fun b x h => h6 b x (hext3 b x h)
            refine ⟨⟨b, A2, c2, os ++ [o], m4⟩, ⟨hgn, fun _ => ⟨(Since.refl os).snoc hok (hof.back hS2.ext), hsaid3.ext h6, hcc2.ext fun b x h => h6 b x (hext3 b x h), hS2.le, how⟩, fun b x h => h5 b x (hS2.ext b x h)⟩, ?_⟩
            conv => whnf
            repeat (first | exact trivial | exact fun _ _ h => h | (refine ⟨by first | exact ⟨rfl, rfl, rfl⟩ | rfl | exact ⟨rfl, rfl⟩ | exact ⟨rfl, fun _ _ => rfl⟩ | exact fun _ _ h => h | (intro _ _ h; cases h; done) | exact fun b x h => h5 b x (hS2.ext b x h), ?_⟩; conv => whnf))
          · subst h0
            refine ⟨⟨b, none, 0, os, m⟩, ⟨hgn, fun h => (by cases h), fun _ _ h => h⟩, ?_⟩
            conv => whnf
            repeat (first | exact trivial | exact fun _ _ h => h | (refine ⟨by first | exact ⟨rfl, rfl, rfl⟩ | rfl | exact ⟨rfl, rfl⟩ | exact ⟨rfl, fun _ _ => rfl⟩ | exact fun _ _ h => h | (intro _ _ h; cases h; done), ?_⟩; conv => whnf))
      · have hB : ¬ k.last > n.mat k.frm.toNat := of_decide_eq_false hB
        have hV : n.mat k.frm.toNat = farI n k := by unfold farI; omega
        have hmat : ∀ j, n.mat j = (hearN n k).mat j := fun j => by
          show _ = if j = k.frm.toNat then farI n k else n.mat j
          split
          · rename_i hj; rw [hj]; exact hV
          · rfl
        conv => whnf
        refine Or.inr ⟨[], sc57_9, by kernel_rfl, ?_⟩
        conv => whnf
        repeat (first | exact trivial | (refine ⟨by first | exact ⟨rfl, rfl, rfl⟩ | rfl | exact ⟨rfl, rfl⟩ | exact ⟨rfl, fun _ _ => rfl⟩ | exact fun _ _ h => h | (intro _ _ h; cases h; done) | exact hix | exact hix2, ?_⟩; conv => whnf))
        refine ⟨fun hC => ?_, fun hC => ?_⟩
        · have hC : n.next k.frm.toNat < farI n k + 1 := by
            have h : n.next k.frm.toNat < IntKind.i64.wrap (n.mat k.frm.toNat + 1) := of_decide_eq_true hC
            rwa [hV, hw1] at h
          conv => whnf
          refine Or.inr ⟨[], sc57_10, by kernel_rfl, ?_⟩
          conv => whnf
          repeat (first | exact trivial | (refine ⟨by first | exact ⟨rfl, rfl, rfl⟩ | rfl | exact ⟨rfl, rfl⟩ | exact ⟨rfl, fun _ _ => rfl⟩ | exact fun _ _ h => h | (intro _ _ h; cases h; done) | exact hix | exact hix2, ?_⟩; conv => whnf))
          have hnext : ∀ j, (if j = k.frm.toNat then IntKind.i64.wrap (n.mat k.frm.toNat + 1) else n.next j) = (hearN n k).next j := fun j => by
            show _ = if j = k.frm.toNat then max (n.next k.frm.toNat) (farI n k + 1) else n.next j
            rw [hV, hw1]
            split
            · omega
            · rfl
          have hgn' : gotN n k = { hearN n k with commit := commitN (hearN n k) } := by unfold gotN; rw [hlead, hyes]
          refine ⟨⟨hearN n k, .own, os, m⟩, ⟨⟨hs1, hs2, hm1, hm2, hb1, hb2, hl, hc1, hc2⟩, hmono, trivial⟩, ?_⟩
          conv => whnf
          repeat (first | exact trivial | (refine ⟨by first | exact ⟨rfl, rfl, rfl⟩ | rfl | exact ⟨rfl, rfl⟩ | exact ⟨rfl, fun _ _ => rfl⟩ | exact fun _ _ h => h | (intro _ _ h; cases h; done) | exact ⟨rfl, fun j _ => hmat j⟩ | exact ⟨rfl, fun j _ => hnext j⟩, ?_⟩; conv => whnf))
          intro b hb
          have hgn : b = gotN n k := hgn' ▸ hb
          have hbm : b.mat k.frm.toNat = farI n k := by rw [hb]; exact if_pos rfl
          have hbx : b.next k.frm.toNat = max (n.next k.frm.toNat) (farI n k + 1) := by rw [hb]; exact if_pos rfl
          have hy2 : (if decide (farI n k < lastI n) = true then (max (n.next k.frm.toNat) (farI n k + 1) == farI n k + 1) else false) = y := by
            rw [ifand, ← hy]; unfold gotY; rw [hlead, hyes]; rfl
          have hbf : Fit b := by rw [hb]; exact hear_fit hf0 hcl
          have hbn : Near b k.frm := by
            refine ⟨hk1, by omega, ?_, ?_⟩
            · rw [hbx]; omega
            · rw [hbx, hb]; show _ ≤ n.log.base + n.log.items.length + 1; omega
          conv => whnf
          refine Or.inr ⟨[], sc57_12, by kernel_rfl, ?_⟩
          conv => whnf
          repeat (first | exact trivial | (refine ⟨by first | exact ⟨rfl, rfl, rfl⟩ | rfl | exact ⟨rfl, rfl⟩ | exact ⟨rfl, fun _ _ => rfl⟩ | exact fun _ _ h => h | (intro _ _ h; cases h; done) | exact hix | exact hix2 | exact fun _ => hix | exact fun _ => hix2, ?_⟩; conv => whnf))
          rw [hbm, hbx, hw1, hy2]
          refine ⟨fun h1 => ?_, fun h0 => ?_⟩
          · subst h1
            conv => whnf
            intro A2 c2 m2 hS2
            have hcc2 : Cells m2 A2 (itemsV (b).log.items) := .of_sealed hS2
            refine ⟨⟨b, A2, c2, os, m2, k.frm⟩, ⟨hbf, hbn, ⟨hcc2, hS2.le⟩, hsaid.ext hS2.ext, by show os.length < 900; omega⟩, ?_⟩
            conv => whnf
            repeat (first | exact trivial | (refine ⟨by first | exact ⟨rfl, rfl, rfl⟩ | rfl | exact ⟨rfl, rfl⟩ | exact ⟨rfl, fun _ _ => rfl⟩ | exact fun _ _ h => h | (intro _ _ h; cases h; done), ?_⟩; conv => whnf))
            rintro ⟨os3, m3⟩ ⟨⟨o, rfl, hok, hof⟩, hsaid3, hext3⟩ m4 h5 h6
            have how := own_of hS2 hsaid ((Since.refl os).snoc hok hof) (fun _ _ h => h) fun b x h => h6 b x (hext3 b x h)
            refine ⟨⟨b, A2, c2, os ++ [o], m4⟩, ⟨hgn, fun _ => ⟨(Since.refl os).snoc hok (hof.back hS2.ext), hsaid3.ext h6, hcc2.ext fun b x h => h6 b x (hext3 b x h), hS2.le, how⟩, fun b x h => h5 b x (hS2.ext b x h)⟩, ?_⟩
            conv => whnf
            repeat (first | exact trivial | exact fun _ _ h => h | (refine ⟨by first | exact ⟨rfl, rfl, rfl⟩ | rfl | exact ⟨rfl, rfl⟩ | exact ⟨rfl, fun _ _ => rfl⟩ | exact fun _ _ h => h | (intro _ _ h; cases h; done) | exact fun b x h => h5 b x (hS2.ext b x h), ?_⟩; conv => whnf))
          · subst h0
            refine ⟨⟨b, none, 0, os, m⟩, ⟨hgn, fun h => (by cases h), fun _ _ h => h⟩, ?_⟩
            conv => whnf
            repeat (first | exact trivial | exact fun _ _ h => h | (refine ⟨by first | exact ⟨rfl, rfl, rfl⟩ | rfl | exact ⟨rfl, rfl⟩ | exact ⟨rfl, fun _ _ => rfl⟩ | exact fun _ _ h => h | (intro _ _ h; cases h; done), ?_⟩; conv => whnf))
        · have hC : ¬ n.next k.frm.toNat < farI n k + 1 := by
            have h : ¬ n.next k.frm.toNat < IntKind.i64.wrap (n.mat k.frm.toNat + 1) := of_decide_eq_false hC
            rwa [hV, hw1] at h
          have hnext : ∀ j, n.next j = (hearN n k).next j := fun j => by
            show _ = if j = k.frm.toNat then max (n.next k.frm.toNat) (farI n k + 1) else n.next j
            split
            · rename_i hj; rw [hj]; omega
            · rfl
          conv => whnf
          have hgn' : gotN n k = { hearN n k with commit := commitN (hearN n k) } := by unfold gotN; rw [hlead, hyes]
          refine ⟨⟨hearN n k, .own, os, m⟩, ⟨⟨hs1, hs2, hm1, hm2, hb1, hb2, hl, hc1, hc2⟩, hmono, trivial⟩, ?_⟩
          conv => whnf
          repeat (first | exact trivial | (refine ⟨by first | exact ⟨rfl, rfl, rfl⟩ | rfl | exact ⟨rfl, rfl⟩ | exact ⟨rfl, fun _ _ => rfl⟩ | exact fun _ _ h => h | (intro _ _ h; cases h; done) | exact ⟨rfl, fun j _ => hmat j⟩ | exact ⟨rfl, fun j _ => hnext j⟩, ?_⟩; conv => whnf))
          intro b hb
          have hgn : b = gotN n k := hgn' ▸ hb
          have hbm : b.mat k.frm.toNat = farI n k := by rw [hb]; exact if_pos rfl
          have hbx : b.next k.frm.toNat = max (n.next k.frm.toNat) (farI n k + 1) := by rw [hb]; exact if_pos rfl
          have hy2 : (if decide (farI n k < lastI n) = true then (max (n.next k.frm.toNat) (farI n k + 1) == farI n k + 1) else false) = y := by
            rw [ifand, ← hy]; unfold gotY; rw [hlead, hyes]; rfl
          have hbf : Fit b := by rw [hb]; exact hear_fit hf0 hcl
          have hbn : Near b k.frm := by
            refine ⟨hk1, by omega, ?_, ?_⟩
            · rw [hbx]; omega
            · rw [hbx, hb]; show _ ≤ n.log.base + n.log.items.length + 1; omega
          conv => whnf
          refine Or.inr ⟨[], sc57_12, by kernel_rfl, ?_⟩
          conv => whnf
          repeat (first | exact trivial | (refine ⟨by first | exact ⟨rfl, rfl, rfl⟩ | rfl | exact ⟨rfl, rfl⟩ | exact ⟨rfl, fun _ _ => rfl⟩ | exact fun _ _ h => h | (intro _ _ h; cases h; done) | exact hix | exact hix2 | exact fun _ => hix | exact fun _ => hix2, ?_⟩; conv => whnf))
          rw [hbm, hbx, hw1, hy2]
          refine ⟨fun h1 => ?_, fun h0 => ?_⟩
          · subst h1
            conv => whnf
            intro A2 c2 m2 hS2
            have hcc2 : Cells m2 A2 (itemsV (b).log.items) := .of_sealed hS2
            refine ⟨⟨b, A2, c2, os, m2, k.frm⟩, ⟨hbf, hbn, ⟨hcc2, hS2.le⟩, hsaid.ext hS2.ext, by show os.length < 900; omega⟩, ?_⟩
            conv => whnf
            repeat (first | exact trivial | (refine ⟨by first | exact ⟨rfl, rfl, rfl⟩ | rfl | exact ⟨rfl, rfl⟩ | exact ⟨rfl, fun _ _ => rfl⟩ | exact fun _ _ h => h | (intro _ _ h; cases h; done), ?_⟩; conv => whnf))
            rintro ⟨os3, m3⟩ ⟨⟨o, rfl, hok, hof⟩, hsaid3, hext3⟩ m4 h5 h6
            have how := own_of hS2 hsaid ((Since.refl os).snoc hok hof) (fun _ _ h => h) fun b x h => h6 b x (hext3 b x h)
            refine ⟨⟨b, A2, c2, os ++ [o], m4⟩, ⟨hgn, fun _ => ⟨(Since.refl os).snoc hok (hof.back hS2.ext), hsaid3.ext h6, hcc2.ext fun b x h => h6 b x (hext3 b x h), hS2.le, how⟩, fun b x h => h5 b x (hS2.ext b x h)⟩, ?_⟩
            conv => whnf
            repeat (first | exact trivial | exact fun _ _ h => h | (refine ⟨by first | exact ⟨rfl, rfl, rfl⟩ | rfl | exact ⟨rfl, rfl⟩ | exact ⟨rfl, fun _ _ => rfl⟩ | exact fun _ _ h => h | (intro _ _ h; cases h; done) | exact fun b x h => h5 b x (hS2.ext b x h), ?_⟩; conv => whnf))
          · subst h0
            refine ⟨⟨b, none, 0, os, m⟩, ⟨hgn, fun h => (by cases h), fun _ _ h => h⟩, ?_⟩
            conv => whnf
            repeat (first | exact trivial | exact fun _ _ h => h | (refine ⟨by first | exact ⟨rfl, rfl, rfl⟩ | rfl | exact ⟨rfl, rfl⟩ | exact ⟨rfl, fun _ _ => rfl⟩ | exact fun _ _ h => h | (intro _ _ h; cases h; done), ?_⟩; conv => whnf))
  · have hw1 : IntKind.i64.wrap (n.next k.frm.toNat - 1) = n.next k.frm.toNat - 1 := wrapi ⟨by omega, by omega⟩
    have hw2 : IntKind.i64.wrap (k.last + 1) = k.last + 1 := wrapi ⟨by omega, by omega⟩
    have hw3 : IntKind.i64.wrap (n.mat k.frm.toNat + 1) = n.mat k.frm.toNat + 1 := wrapi ⟨by omega, by omega⟩
    have hy2 : decide (backI n k < n.next k.frm.toNat) = y := by rw [← hy]; unfold gotY; rw [hlead, hno]; rfl
    conv => whnf
    repeat (first | exact trivial | (refine ⟨by first | exact ⟨rfl, rfl, rfl⟩ | rfl | exact ⟨rfl, rfl⟩ | exact ⟨rfl, fun _ _ => rfl⟩ | exact fun _ _ h => h | (intro _ _ h; cases h; done) | exact hix | exact hix2, ?_⟩; conv => whnf))
    rw [hw2, hw1]
    refine ⟨fun hA => ?_, fun hA => ?_⟩
    · have hA : k.last + 1 < n.next k.frm.toNat - 1 := of_decide_eq_true hA
      conv => whnf
      repeat (first | exact trivial | (refine ⟨by first | exact ⟨rfl, rfl, rfl⟩ | rfl | exact ⟨rfl, rfl⟩ | exact ⟨rfl, fun _ _ => rfl⟩ | exact fun _ _ h => h | (intro _ _ h; cases h; done) | exact hix | exact hix2, ?_⟩; conv => whnf))
      rw [hw3]
      refine ⟨fun hB => ?_, fun hB => ?_⟩
      · have hB : (k.last + 1) < n.mat k.frm.toNat + 1 := by
          have h := of_decide_eq_true hB
          first | exact h | (rw [hw2] at h; exact h)
        have hv : n.mat k.frm.toNat + 1 = backI n k := by unfold backI; omega
        conv => whnf
        repeat (first | exact trivial | (refine ⟨by first | exact ⟨rfl, rfl, rfl⟩ | rfl | exact ⟨rfl, rfl⟩ | exact ⟨rfl, fun _ _ => rfl⟩ | exact fun _ _ h => h | (intro _ _ h; cases h; done) | exact hix | exact hix2, ?_⟩; conv => whnf))
        rw [hw3, hv]
        rw [hy2]
        refine ⟨fun h1 => ?_, fun h0 => ?_⟩
        · subst h1
          have hback : backI n k < n.next k.frm.toNat := of_decide_eq_true hy2
          have hbp : 0 ≤ backI n k := by unfold backI; omega
          obtain ⟨b, hbe⟩ : ∃ b : Node, b = { n with next := fun j => if j = k.frm.toNat then backI n k else n.next j } := ⟨_, rfl⟩
          have hgn : b = gotN n k := by rw [hbe]; unfold gotN; rw [hlead, hno]; show _ = match decide (backI n k < n.next k.frm.toNat) with | true => _ | false => _; rw [hy2]
          have hbf : Fit b := by rw [hbe]; exact ⟨hs1, hs2, hm1, hm2, hb1, hb2, hl, hc1, hc2⟩
          have hbn : Near b k.frm := by
            refine ⟨hk1, by omega, ?_, ?_⟩
            · rw [hbe]; show 0 ≤ if k.frm.toNat = k.frm.toNat then _ else _; rw [if_pos rfl]; exact hbp
            · rw [hbe]; show (if k.frm.toNat = k.frm.toNat then _ else _) ≤ n.log.base + n.log.items.length + 1; rw [if_pos rfl]; omega
          conv => whnf
          repeat (first | exact trivial | (refine ⟨by first | exact ⟨rfl, rfl, rfl⟩ | rfl | exact ⟨rfl, rfl⟩ | exact ⟨rfl, fun _ _ => rfl⟩ | exact fun _ _ h => h | (intro _ _ h; cases h; done) | exact hix | exact hix2, ?_⟩; conv => whnf))
          intro A2 c2 m2 hS2
          have hcc2 : Cells m2 A2 (itemsV (b).log.items) := by rw [hbe]; exact .of_sealed hS2
          have hcap2 : (b).log.items.length ≤ c2 := by rw [hbe]; exact hS2.le
          refine ⟨⟨b, A2, c2, os, m2, k.frm⟩, ⟨hbf, hbn, ⟨hcc2, hcap2⟩, hsaid.ext hS2.ext, by show os.length < 900; omega⟩, ?_⟩
          conv => whnf
          repeat (first | exact trivial | (refine ⟨by first | exact ⟨rfl, rfl, rfl⟩ | rfl | exact ⟨rfl, rfl⟩ | exact ⟨rfl, fun _ _ => rfl⟩ | exact fun _ _ h => h | (intro _ _ h; cases h; done) | (rw [hbe]; done) | (rw [hbe]; exact ⟨rfl, rfl, rfl⟩) | (rw [hbe]; exact ⟨rfl, fun _ _ => rfl⟩), ?_⟩; conv => whnf))
          rintro ⟨os3, m3⟩ ⟨⟨o, rfl, hok, hof⟩, hsaid3, hext3⟩ m4 h5 h6
          have how : Own m m4 A2 ((b).log.items.length * 6) (os ++ [o]) := by rw [hbe]; exact own_of hS2 hsaid ((Since.refl os).snoc hok hof) (fun _ _ h => h) fun b x h => h6 b x (hext3 b x h)
          refine ⟨⟨b, A2, c2, os ++ [o], m4⟩, ⟨hgn, fun _ => ⟨(Since.refl os).snoc hok (hof.back hS2.ext), hsaid3.ext h6, hcc2.ext fun b x h => h6 b x (hext3 b x h), hcap2, how⟩, fun b x h => h5 b x (hS2.ext b x h)⟩, ?_⟩
          conv => whnf
          repeat (first | exact trivial | exact fun _ _ h => h | (refine ⟨by first | exact ⟨rfl, rfl, rfl⟩ | rfl | exact ⟨rfl, rfl⟩ | exact ⟨rfl, fun _ _ => rfl⟩ | exact fun _ _ h => h | (intro _ _ h; cases h; done) | exact fun b x h => h5 b x (hS2.ext b x h), ?_⟩; conv => whnf))
        · subst h0
          have hr : n = gotN n k := by unfold gotN; rw [hlead, hno]; show _ = match decide (backI n k < n.next k.frm.toNat) with | true => _ | false => _; rw [hy2]
          refine ⟨⟨n, none, 0, os, m⟩, ⟨hr, fun h => (by cases h), fun _ _ h => h⟩, ?_⟩
          conv => whnf
          repeat (first | exact trivial | exact fun _ _ h => h | (refine ⟨by first | exact ⟨rfl, rfl, rfl⟩ | rfl | exact ⟨rfl, rfl⟩ | exact ⟨rfl, fun _ _ => rfl⟩ | exact fun _ _ h => h | (intro _ _ h; cases h; done), ?_⟩; conv => whnf))
      · have hB : ¬ (k.last + 1) < n.mat k.frm.toNat + 1 := by
          have h := of_decide_eq_false hB
          first | exact h | (rw [hw2] at h; exact h)
        have hv : (k.last + 1) = backI n k := by unfold backI; omega
        conv => whnf
        repeat (first | exact trivial | (refine ⟨by first | exact ⟨rfl, rfl, rfl⟩ | rfl | exact ⟨rfl, rfl⟩ | exact ⟨rfl, fun _ _ => rfl⟩ | exact fun _ _ h => h | (intro _ _ h; cases h; done) | exact hix | exact hix2, ?_⟩; conv => whnf))
        first | rw [hw2, hv] | rw [hv]
        rw [hy2]
        refine ⟨fun h1 => ?_, fun h0 => ?_⟩
        · subst h1
          have hback : backI n k < n.next k.frm.toNat := of_decide_eq_true hy2
          have hbp : 0 ≤ backI n k := by unfold backI; omega
          obtain ⟨b, hbe⟩ : ∃ b : Node, b = { n with next := fun j => if j = k.frm.toNat then backI n k else n.next j } := ⟨_, rfl⟩
          have hgn : b = gotN n k := by rw [hbe]; unfold gotN; rw [hlead, hno]; show _ = match decide (backI n k < n.next k.frm.toNat) with | true => _ | false => _; rw [hy2]
          have hbf : Fit b := by rw [hbe]; exact ⟨hs1, hs2, hm1, hm2, hb1, hb2, hl, hc1, hc2⟩
          have hbn : Near b k.frm := by
            refine ⟨hk1, by omega, ?_, ?_⟩
            · rw [hbe]; show 0 ≤ if k.frm.toNat = k.frm.toNat then _ else _; rw [if_pos rfl]; exact hbp
            · rw [hbe]; show (if k.frm.toNat = k.frm.toNat then _ else _) ≤ n.log.base + n.log.items.length + 1; rw [if_pos rfl]; omega
          conv => whnf
          repeat (first | exact trivial | (refine ⟨by first | exact ⟨rfl, rfl, rfl⟩ | rfl | exact ⟨rfl, rfl⟩ | exact ⟨rfl, fun _ _ => rfl⟩ | exact fun _ _ h => h | (intro _ _ h; cases h; done) | exact hix | exact hix2, ?_⟩; conv => whnf))
          intro A2 c2 m2 hS2
          have hcc2 : Cells m2 A2 (itemsV (b).log.items) := by rw [hbe]; exact .of_sealed hS2
          have hcap2 : (b).log.items.length ≤ c2 := by rw [hbe]; exact hS2.le
          refine ⟨⟨b, A2, c2, os, m2, k.frm⟩, ⟨hbf, hbn, ⟨hcc2, hcap2⟩, hsaid.ext hS2.ext, by show os.length < 900; omega⟩, ?_⟩
          conv => whnf
          repeat (first | exact trivial | (refine ⟨by first | exact ⟨rfl, rfl, rfl⟩ | rfl | exact ⟨rfl, rfl⟩ | exact ⟨rfl, fun _ _ => rfl⟩ | exact fun _ _ h => h | (intro _ _ h; cases h; done) | (rw [hbe]; done) | (rw [hbe]; exact ⟨rfl, rfl, rfl⟩) | (rw [hbe]; exact ⟨rfl, fun _ _ => rfl⟩), ?_⟩; conv => whnf))
          rintro ⟨os3, m3⟩ ⟨⟨o, rfl, hok, hof⟩, hsaid3, hext3⟩ m4 h5 h6
          have how : Own m m4 A2 ((b).log.items.length * 6) (os ++ [o]) := by rw [hbe]; exact own_of hS2 hsaid ((Since.refl os).snoc hok hof) (fun _ _ h => h) fun b x h => h6 b x (hext3 b x h)
          refine ⟨⟨b, A2, c2, os ++ [o], m4⟩, ⟨hgn, fun _ => ⟨(Since.refl os).snoc hok (hof.back hS2.ext), hsaid3.ext h6, hcc2.ext fun b x h => h6 b x (hext3 b x h), hcap2, how⟩, fun b x h => h5 b x (hS2.ext b x h)⟩, ?_⟩
          conv => whnf
          repeat (first | exact trivial | exact fun _ _ h => h | (refine ⟨by first | exact ⟨rfl, rfl, rfl⟩ | rfl | exact ⟨rfl, rfl⟩ | exact ⟨rfl, fun _ _ => rfl⟩ | exact fun _ _ h => h | (intro _ _ h; cases h; done) | exact fun b x h => h5 b x (hS2.ext b x h), ?_⟩; conv => whnf))
        · subst h0
          have hr : n = gotN n k := by unfold gotN; rw [hlead, hno]; show _ = match decide (backI n k < n.next k.frm.toNat) with | true => _ | false => _; rw [hy2]
          refine ⟨⟨n, none, 0, os, m⟩, ⟨hr, fun h => (by cases h), fun _ _ h => h⟩, ?_⟩
          conv => whnf
          repeat (first | exact trivial | exact fun _ _ h => h | (refine ⟨by first | exact ⟨rfl, rfl, rfl⟩ | rfl | exact ⟨rfl, rfl⟩ | exact ⟨rfl, fun _ _ => rfl⟩ | exact fun _ _ h => h | (intro _ _ h; cases h; done), ?_⟩; conv => whnf))
    · have hA : ¬ k.last + 1 < n.next k.frm.toNat - 1 := of_decide_eq_false hA
      conv => whnf
      repeat (first | exact trivial | (refine ⟨by first | exact ⟨rfl, rfl, rfl⟩ | rfl | exact ⟨rfl, rfl⟩ | exact ⟨rfl, fun _ _ => rfl⟩ | exact fun _ _ h => h | (intro _ _ h; cases h; done) | exact hix | exact hix2, ?_⟩; conv => whnf))
      rw [hw3]
      refine ⟨fun hB => ?_, fun hB => ?_⟩
      · have hB : (n.next k.frm.toNat - 1) < n.mat k.frm.toNat + 1 := by
          have h := of_decide_eq_true hB
          first | exact h | (rw [hw2] at h; exact h)
        have hv : n.mat k.frm.toNat + 1 = backI n k := by unfold backI; omega
        conv => whnf
        repeat (first | exact trivial | (refine ⟨by first | exact ⟨rfl, rfl, rfl⟩ | rfl | exact ⟨rfl, rfl⟩ | exact ⟨rfl, fun _ _ => rfl⟩ | exact fun _ _ h => h | (intro _ _ h; cases h; done) | exact hix | exact hix2, ?_⟩; conv => whnf))
        rw [hw3, hv]
        rw [hy2]
        refine ⟨fun h1 => ?_, fun h0 => ?_⟩
        · subst h1
          have hback : backI n k < n.next k.frm.toNat := of_decide_eq_true hy2
          have hbp : 0 ≤ backI n k := by unfold backI; omega
          obtain ⟨b, hbe⟩ : ∃ b : Node, b = { n with next := fun j => if j = k.frm.toNat then backI n k else n.next j } := ⟨_, rfl⟩
          have hgn : b = gotN n k := by rw [hbe]; unfold gotN; rw [hlead, hno]; show _ = match decide (backI n k < n.next k.frm.toNat) with | true => _ | false => _; rw [hy2]
          have hbf : Fit b := by rw [hbe]; exact ⟨hs1, hs2, hm1, hm2, hb1, hb2, hl, hc1, hc2⟩
          have hbn : Near b k.frm := by
            refine ⟨hk1, by omega, ?_, ?_⟩
            · rw [hbe]; show 0 ≤ if k.frm.toNat = k.frm.toNat then _ else _; rw [if_pos rfl]; exact hbp
            · rw [hbe]; show (if k.frm.toNat = k.frm.toNat then _ else _) ≤ n.log.base + n.log.items.length + 1; rw [if_pos rfl]; omega
          conv => whnf
          repeat (first | exact trivial | (refine ⟨by first | exact ⟨rfl, rfl, rfl⟩ | rfl | exact ⟨rfl, rfl⟩ | exact ⟨rfl, fun _ _ => rfl⟩ | exact fun _ _ h => h | (intro _ _ h; cases h; done) | exact hix | exact hix2, ?_⟩; conv => whnf))
          intro A2 c2 m2 hS2
          have hcc2 : Cells m2 A2 (itemsV (b).log.items) := by rw [hbe]; exact .of_sealed hS2
          have hcap2 : (b).log.items.length ≤ c2 := by rw [hbe]; exact hS2.le
          refine ⟨⟨b, A2, c2, os, m2, k.frm⟩, ⟨hbf, hbn, ⟨hcc2, hcap2⟩, hsaid.ext hS2.ext, by show os.length < 900; omega⟩, ?_⟩
          conv => whnf
          repeat (first | exact trivial | (refine ⟨by first | exact ⟨rfl, rfl, rfl⟩ | rfl | exact ⟨rfl, rfl⟩ | exact ⟨rfl, fun _ _ => rfl⟩ | exact fun _ _ h => h | (intro _ _ h; cases h; done) | (rw [hbe]; done) | (rw [hbe]; exact ⟨rfl, rfl, rfl⟩) | (rw [hbe]; exact ⟨rfl, fun _ _ => rfl⟩), ?_⟩; conv => whnf))
          rintro ⟨os3, m3⟩ ⟨⟨o, rfl, hok, hof⟩, hsaid3, hext3⟩ m4 h5 h6
          have how : Own m m4 A2 ((b).log.items.length * 6) (os ++ [o]) := by rw [hbe]; exact own_of hS2 hsaid ((Since.refl os).snoc hok hof) (fun _ _ h => h) fun b x h => h6 b x (hext3 b x h)
          refine ⟨⟨b, A2, c2, os ++ [o], m4⟩, ⟨hgn, fun _ => ⟨(Since.refl os).snoc hok (hof.back hS2.ext), hsaid3.ext h6, hcc2.ext fun b x h => h6 b x (hext3 b x h), hcap2, how⟩, fun b x h => h5 b x (hS2.ext b x h)⟩, ?_⟩
          conv => whnf
          repeat (first | exact trivial | exact fun _ _ h => h | (refine ⟨by first | exact ⟨rfl, rfl, rfl⟩ | rfl | exact ⟨rfl, rfl⟩ | exact ⟨rfl, fun _ _ => rfl⟩ | exact fun _ _ h => h | (intro _ _ h; cases h; done) | exact fun b x h => h5 b x (hS2.ext b x h), ?_⟩; conv => whnf))
        · subst h0
          have hr : n = gotN n k := by unfold gotN; rw [hlead, hno]; show _ = match decide (backI n k < n.next k.frm.toNat) with | true => _ | false => _; rw [hy2]
          refine ⟨⟨n, none, 0, os, m⟩, ⟨hr, fun h => (by cases h), fun _ _ h => h⟩, ?_⟩
          conv => whnf
          repeat (first | exact trivial | exact fun _ _ h => h | (refine ⟨by first | exact ⟨rfl, rfl, rfl⟩ | rfl | exact ⟨rfl, rfl⟩ | exact ⟨rfl, fun _ _ => rfl⟩ | exact fun _ _ h => h | (intro _ _ h; cases h; done), ?_⟩; conv => whnf))
      · have hB : ¬ (n.next k.frm.toNat - 1) < n.mat k.frm.toNat + 1 := by
          have h := of_decide_eq_false hB
          first | exact h | (rw [hw2] at h; exact h)
        have hv : (n.next k.frm.toNat - 1) = backI n k := by unfold backI; omega
        conv => whnf
        repeat (first | exact trivial | (refine ⟨by first | exact ⟨rfl, rfl, rfl⟩ | rfl | exact ⟨rfl, rfl⟩ | exact ⟨rfl, fun _ _ => rfl⟩ | exact fun _ _ h => h | (intro _ _ h; cases h; done) | exact hix | exact hix2, ?_⟩; conv => whnf))
        first | rw [hw2, hv] | rw [hv]
        rw [hy2]
        refine ⟨fun h1 => ?_, fun h0 => ?_⟩
        · subst h1
          have hback : backI n k < n.next k.frm.toNat := of_decide_eq_true hy2
          have hbp : 0 ≤ backI n k := by unfold backI; omega
          obtain ⟨b, hbe⟩ : ∃ b : Node, b = { n with next := fun j => if j = k.frm.toNat then backI n k else n.next j } := ⟨_, rfl⟩
          have hgn : b = gotN n k := by rw [hbe]; unfold gotN; rw [hlead, hno]; show _ = match decide (backI n k < n.next k.frm.toNat) with | true => _ | false => _; rw [hy2]
          have hbf : Fit b := by rw [hbe]; exact ⟨hs1, hs2, hm1, hm2, hb1, hb2, hl, hc1, hc2⟩
          have hbn : Near b k.frm := by
            refine ⟨hk1, by omega, ?_, ?_⟩
            · rw [hbe]; show 0 ≤ if k.frm.toNat = k.frm.toNat then _ else _; rw [if_pos rfl]; exact hbp
            · rw [hbe]; show (if k.frm.toNat = k.frm.toNat then _ else _) ≤ n.log.base + n.log.items.length + 1; rw [if_pos rfl]; omega
          conv => whnf
          repeat (first | exact trivial | (refine ⟨by first | exact ⟨rfl, rfl, rfl⟩ | rfl | exact ⟨rfl, rfl⟩ | exact ⟨rfl, fun _ _ => rfl⟩ | exact fun _ _ h => h | (intro _ _ h; cases h; done) | exact hix | exact hix2, ?_⟩; conv => whnf))
          intro A2 c2 m2 hS2
          have hcc2 : Cells m2 A2 (itemsV (b).log.items) := by rw [hbe]; exact .of_sealed hS2
          have hcap2 : (b).log.items.length ≤ c2 := by rw [hbe]; exact hS2.le
          refine ⟨⟨b, A2, c2, os, m2, k.frm⟩, ⟨hbf, hbn, ⟨hcc2, hcap2⟩, hsaid.ext hS2.ext, by show os.length < 900; omega⟩, ?_⟩
          conv => whnf
          repeat (first | exact trivial | (refine ⟨by first | exact ⟨rfl, rfl, rfl⟩ | rfl | exact ⟨rfl, rfl⟩ | exact ⟨rfl, fun _ _ => rfl⟩ | exact fun _ _ h => h | (intro _ _ h; cases h; done) | (rw [hbe]; done) | (rw [hbe]; exact ⟨rfl, rfl, rfl⟩) | (rw [hbe]; exact ⟨rfl, fun _ _ => rfl⟩), ?_⟩; conv => whnf))
          rintro ⟨os3, m3⟩ ⟨⟨o, rfl, hok, hof⟩, hsaid3, hext3⟩ m4 h5 h6
          have how : Own m m4 A2 ((b).log.items.length * 6) (os ++ [o]) := by rw [hbe]; exact own_of hS2 hsaid ((Since.refl os).snoc hok hof) (fun _ _ h => h) fun b x h => h6 b x (hext3 b x h)
          refine ⟨⟨b, A2, c2, os ++ [o], m4⟩, ⟨hgn, fun _ => ⟨(Since.refl os).snoc hok (hof.back hS2.ext), hsaid3.ext h6, hcc2.ext fun b x h => h6 b x (hext3 b x h), hcap2, how⟩, fun b x h => h5 b x (hS2.ext b x h)⟩, ?_⟩
          conv => whnf
          repeat (first | exact trivial | exact fun _ _ h => h | (refine ⟨by first | exact ⟨rfl, rfl, rfl⟩ | rfl | exact ⟨rfl, rfl⟩ | exact ⟨rfl, fun _ _ => rfl⟩ | exact fun _ _ h => h | (intro _ _ h; cases h; done) | exact fun b x h => h5 b x (hS2.ext b x h), ?_⟩; conv => whnf))
        · subst h0
          have hr : n = gotN n k := by unfold gotN; rw [hlead, hno]; show _ = match decide (backI n k < n.next k.frm.toNat) with | true => _ | false => _; rw [hy2]
          refine ⟨⟨n, none, 0, os, m⟩, ⟨hr, fun h => (by cases h), fun _ _ h => h⟩, ?_⟩
          conv => whnf
          repeat (first | exact trivial | exact fun _ _ h => h | (refine ⟨by first | exact ⟨rfl, rfl, rfl⟩ | rfl | exact ⟨rfl, rfl⟩ | exact ⟨rfl, fun _ _ => rfl⟩ | exact fun _ _ h => h | (intro _ _ h; cases h; done), ?_⟩; conv => whnf))
end Go.Proofs.Ytjpjiniclibgkaa.Sx

namespace Go.Proofs.Ytjpjiniclibgkaa.Sx
open Go

def clashB (n : Node) : Int → List Item → Bool
  | _, [] => false
  | a, x :: r => (decide (a + 1 ≤ n.commit) && ((termAtN n.log (a + 1)).1 != x.term)) || clashB n (a + 1) r
structure ClashG where
  n : Node
  os : List OMsg
  m : Mem
  a : Int
  xs : List Item
  D : Option Addr
  e : Nat
def clashSpec (t : TypeId) : Spec where
  A := ClashG
  R := fun ⟨n, _, m, a, xs, D, _⟩ => Fit n ∧ 0 ≤ a ∧ a ≤ 2 ^ 42 ∧ xs.length ≤ 1000 ∧ Cells m D (itemsV xs)
  J := fun ⟨_, _, m, _, _, _, _⟩ => m
  args := fun ⟨_, _, _, a, xs, D, e⟩ => [.p 0 0, .i .i64 a, .sl D xs.length e]
  h := fun ⟨n, os, _, _, _, _, _⟩ => turnH t 1 2 n .own os
  nx := 3
  Bb := Unit
  C := fun _ _ => True
  out := fun ⟨n, _, _, a, xs, _, _⟩ _ => .ret (.b (clashB n a xs))
  h2 := fun ⟨n, os, _, _, _, _, _⟩ _ => turnH t 3 4 n .own os
  nx2 := 5
set_option maxRecDepth 100000 in
set_option maxHeartbeats 1600000 in
theorem clash_ok : SpecOk Try.prog 73 (clashSpec 78) := by
  refine spec_of_exec (fn := Try.f73) (c := Try.f73.body.getD .skip) (d := 1) (lv := ([0, 1, 2, 6, 8, 9, 11, 12, 13, 14, 41])) (DP := DPx T1 (CPs S8) ([0, 1, 2, 6, 8, 9, 11, 12, 13, 14, 41])) T1_ok S8_ok (fun B => DPx_ok T1_ok ord S8_ok B) (clashSpec 78) (by rfl) (by rfl) (by rfl) (fun _ => Nat.le_of_ble_eq_true (by kernel_rfl)) ?_
  rintro ⟨n, os, m, a, xs, D, e⟩ ⟨⟨hs1, hs2, hm1, hm2, hb1, hb2, hl, hc1, hc2⟩, ha1, ha2, hxl, hM⟩
  obtain ⟨s, hs⟩ : ∃ s, s = xs.length := ⟨_, rfl⟩
  conv => whnf
  refine ⟨Nat, fun i => i ≤ s ∧ clashB n (a + (i : Int)) (xs.drop i) = clashB n a xs, fun i => ⟨43, [⟨0, [], .p 0 0⟩, ⟨1, [], .i .i64 (a + (i : Int))⟩, ⟨6, [], .b false⟩, ⟨11, [], .sl D s e⟩, ⟨12, [], .i .i64 s⟩, ⟨13, [], .i .i64 i⟩], [], turnH 78 1 2 n .own os, 3⟩, fun _ => m, fun i => s - i, ⟨0, rfl, ⟨Nat.zero_le _, by show clashB n (a + ((0 : Nat) : Int)) (xs.drop 0) = _; rw [List.drop_zero]; congr 1; omega⟩, ?_⟩, ?_⟩
  conv => whnf
  · conv => whnf
    repeat (first | exact trivial | (refine ⟨by first | exact ⟨rfl, rfl, rfl⟩ | rfl | exact ⟨rfl, rfl⟩ | exact ⟨rfl, fun _ _ => rfl⟩ | exact fun _ _ h => h | (intro _ _ h; cases h; done) | exact ⟨rfl, hs.symm, rfl⟩ | exact congrArg Int.ofNat hs.symm | exact (Int.add_zero a).symm, ?_⟩; conv => whnf))
  · rintro i ⟨hi, hcl⟩
    refine ⟨fun hlt => ?_, fun hge => ?_⟩
    conv => whnf
    · have hlt : i < s := by have h2 : (i : Int) < (s : Int) := of_decide_eq_true hlt; omega
      obtain ⟨x, hx⟩ : ∃ x, xs[i]? = some x := ⟨_, List.getElem?_eq_getElem (by omega)⟩
      have hA := hM.some' (by omega)
      have hdr : xs.drop i = x :: xs.drop (i + 1) := by
        have h1 : i < xs.length := by omega
        rw [List.drop_eq_getElem_cons h1]
        rw [List.getElem?_eq_getElem h1] at hx
        cases hx; rfl
      have hw : IntKind.i64.wrap (a + (i : Int) + 1) = a + (i : Int) + 1 := wrapi ⟨by omega, by omega⟩
      have hstep : a + ((i + 1 : Nat) : Int) = a + (i : Int) + 1 := by omega
      rw [hdr] at hcl
      simp only [clashB] at hcl
      refine ⟨⟨Int.natCast_nonneg _, by show (i : Int) < (s : Int); omega, hA⟩, ?_⟩
      conv => whnf
      refine ⟨.g (itemC x), ⟨rfl, rfl, hM.rd (o := i * 6 + 0) (by show (i : Int).toNat * 6 = _; rw [Int.toNat_natCast, Nat.add_zero]) rfl (by show 0 < 6; decide) (by rw [itemsV_at hx 0 6 (by omega)]; rfl)⟩, ?_⟩
      conv => whnf
      rw [hw]
      intro A2 cap2 m2 hS2
      refine ⟨⟨n.log, A2, cap2, a + (i : Int) + 1, m2⟩, ⟨.of_sealed hS2, by show n.log.items.length < 2 ^ 62; omega, ⟨by omega, by omega⟩, ⟨by omega, by omega⟩⟩, ?_⟩
      conv => whnf
      repeat (first | exact trivial | (refine ⟨by first | exact ⟨rfl, rfl, rfl⟩ | rfl | exact ⟨rfl, rfl⟩ | exact ⟨rfl, fun _ _ => rfl⟩ | exact fun _ _ h => h | (intro _ _ h; cases h; done), ?_⟩; conv => whnf))
      intro _ _
      refine ⟨fun hy => ?_, fun hn => ?_⟩
      conv => whnf
      · rw [ifand] at hy
        rw [hy] at hcl
        refine ⟨(), trivial, ?_⟩
        conv => whnf
        repeat (first | exact trivial | exact fun _ _ h => h | (refine ⟨by first | exact ⟨rfl, rfl, rfl⟩ | rfl | exact ⟨rfl, rfl⟩ | exact ⟨rfl, fun _ _ => rfl⟩ | exact fun _ _ h => h | (intro _ _ h; cases h; done) | exact hcl, ?_⟩; conv => whnf))
      · rw [ifand] at hn
        rw [hn, Bool.false_or, ← hstep] at hcl
        refine ⟨i + 1, rfl, ⟨⟨hlt, hcl⟩, by show s - (i + 1) < s - i; omega⟩, ?_⟩
        conv => whnf
        repeat (first | exact trivial | (refine ⟨by first | exact ⟨rfl, rfl, rfl⟩ | rfl | exact ⟨rfl, rfl⟩ | exact ⟨rfl, fun _ _ => rfl⟩ | exact fun _ _ h => h | (intro _ _ h; cases h; done) | exact wrapi_succ (by omega) | exact hstep.symm, ?_⟩; conv => whnf))
    · have hge : i = s := by have h2 : ¬ (i : Int) < (s : Int) := of_decide_eq_false hge; omega
      rw [hge, hs, List.drop_length] at hcl
      refine ⟨(), trivial, ?_⟩
      conv => whnf
      repeat (first | exact trivial | exact fun _ _ h => h | (refine ⟨by first | exact ⟨rfl, rfl, rfl⟩ | rfl | exact ⟨rfl, rfl⟩ | exact ⟨rfl, fun _ _ => rfl⟩ | exact fun _ _ h => h | (intro _ _ h; cases h; done) | exact hcl, ?_⟩; conv => whnf))
/-! ### laying -/
def truncN (n : Node) (a : Int) : Node := { n with log := { n.log with items := n.log.items.take (a - n.log.base).toNat } }
def pushN (n : Node) (x : Item) : Node := { n with log := { n.log with items := n.log.items ++ [x] } }
def cutB (n : Node) (a : Int) (x : Item) : Bool := if (termAtN n.log (a + 1)).2 = true then ((termAtN n.log (a + 1)).1 != x.term) else false
def cutN (n : Node) (a : Int) (x : Item) : Node := match cutB n a x with
  | true => truncN n a
  | false => n
structure LaidR where
  n : Node
  a : Int
def layGo : Node → Int → List Item → LaidR
  | n, a, [] => ⟨n, a⟩
  | n, a, x :: r => if a < lastI (cutN n a x) then layGo (cutN n a x) (a + 1) r else if (cutN n a x).log.items.length ≥ 256 then ⟨cutN n a x, a⟩ else layGo (pushN (cutN n a x) x) (a + 1) r
theorem known_in {l : Log} {i : Int} (h : (termAtN l i).2 = true) : i = l.base ∨ (l.base < i ∧ i - l.base ≤ l.items.length) := by
  by_cases h1 : i = l.base
  · exact .inl h1
  · by_cases h2 : l.base < i ∧ i - l.base ≤ l.items.length
    · exact .inr h2
    · rw [termAtN_out h1 h2] at h; cases h
structure LayG where
  n : Node
  os : List OMsg
  m : Mem
  a : Int
  xs : List Item
  D : Option Addr
  e : Nat
structure LayB where
  n : Node
  a : Int
  ys : List Item
def laySpec (t : TypeId) : Spec where
  A := LayG
  R := fun ⟨n, _, m, a, xs, D, _⟩ => Fit n ∧ n.log.base ≤ a ∧ a ≤ lastI n ∧ xs.length ≤ 1000 ∧ Cells m D (itemsV xs)
  J := fun ⟨_, _, m, _, _, _, _⟩ => m
  args := fun ⟨_, _, _, a, xs, D, e⟩ => [.p 0 0, .i .i64 a, .sl D xs.length e]
  h := fun ⟨n, os, _, _, _, _, _⟩ => turnH t 1 2 n .own os
  nx := 3
  Bb := LayB
  C := fun ⟨n, _, _, a, xs, _, _⟩ ⟨n', a', ys⟩ => layGo n a xs = ⟨n', a'⟩ ∧ (n'.log.items.length ≤ ys.length ∧ ys.take n'.log.items.length = n'.log.items)
  out := fun _ ⟨_, a', _⟩ => .ret (.i .i64 a')
  h2 := fun ⟨_, os, _, _, _, _, _⟩ ⟨n', _, ys⟩ => turnH t 3 4 n' (.wide ys) os
  nx2 := 5
structure LayL where
  i : Nat
  n : Node
  a : Int
  ys : List Item
theorem drop_cons {xs : List Item} {i : Nat} {x : Item} (hx : xs[i]? = some x) : xs.drop i = x :: xs.drop (i + 1) := by
  have h1 : i < xs.length := (List.getElem?_eq_some_iff.1 hx).1
  rw [List.drop_eq_getElem_cons h1]
  rw [List.getElem?_eq_getElem h1] at hx
  cases hx; rfl
set_option maxRecDepth 100000 in
set_option maxHeartbeats 1600000 in
theorem lay_ok : SpecOk Try.prog 74 (laySpec 78) := by
  refine spec_of_exec (fn := Try.f74) (c := Try.f74.body.getD .skip) (d := 1) (lv := ([0, 1, 2, 6, 8, 9, 10, 11, 13, 14, 15, 16, 36, 80, 84])) (DP := DPx T1 (CPs S8) ([0, 1, 2, 6, 8, 9, 10, 11, 13, 14, 15, 16, 36, 80, 84])) T1_ok S8_ok (fun B => DPx_ok T1_ok ord S8_ok B) (laySpec 78) (by rfl) (by rfl) (by rfl) (fun _ => Nat.le_of_ble_eq_true (by kernel_rfl)) ?_
  rintro ⟨n, os, m, a, xs, D, e⟩ ⟨hf, ha1, ha2, hxl, hM⟩
  obtain ⟨s, hs⟩ : ∃ s, s = xs.length := ⟨_, rfl⟩
  conv => whnf
  refine ⟨LayL, fun ⟨i, n', a', ys⟩ => i ≤ s ∧ layGo n a xs = layGo n' a' (xs.drop i) ∧ Fit n' ∧ n'.log.base ≤ a' ∧ a' ≤ lastI n' ∧ (n'.log.items.length ≤ ys.length ∧ ys.take n'.log.items.length = n'.log.items), fun ⟨i, n', a', ys⟩ => ⟨98, [⟨0, [], .p 0 0⟩, ⟨1, [], .i .i64 a'⟩, ⟨6, [], .i .i64 0⟩, ⟨13, [], .sl D s e⟩, ⟨14, [], .i .i64 s⟩, ⟨15, [], .i .i64 i⟩], [], turnH 78 1 3 n' (.wide ys) os, 4⟩, fun _ => m, fun ⟨i, _, _, _⟩ => s - i, ⟨⟨0, n, a, n.log.items⟩, rfl, ⟨Nat.zero_le _, rfl, hf, ha1, ha2, Nat.le_refl _, List.take_length⟩, ?_⟩, ?_⟩
  conv => whnf
  · conv => whnf
    repeat (first | exact trivial | (refine ⟨by first | exact ⟨rfl, rfl, rfl⟩ | rfl | exact ⟨rfl, rfl⟩ | exact ⟨rfl, fun _ _ => rfl⟩ | exact fun _ _ h => h | (intro _ _ h; cases h; done) | exact ⟨rfl, hs.symm, rfl⟩ | exact congrArg Int.ofNat hs.symm, ?_⟩; conv => whnf))
  · rintro ⟨i, n1, a1, ys⟩ ⟨hi, hgo, hf1, hb1, hb2, hw1⟩
    have hfb1 := hf1.b1
    have hfb2 := hf1.b2
    have hfl := hf1.l
    have hli : lastI n1 = n1.log.base + n1.log.items.length := rfl
    refine ⟨fun hlt => ?_, fun hge => ?_⟩
    conv => whnf
    · have hlt0 : i < s := by have h2 : (i : Int) < (s : Int) := of_decide_eq_true hlt; omega
      obtain ⟨x, hx⟩ : ∃ x, xs[i]? = some x := ⟨_, List.getElem?_eq_getElem (by omega)⟩
      have hA := hM.some' (by omega)
      rw [drop_cons hx] at hgo
      simp only [layGo] at hgo
      have hwa : IntKind.i64.wrap (a1 + 1) = a1 + 1 := wrapi ⟨by omega, by omega⟩
      refine ⟨⟨Int.natCast_nonneg _, by show (i : Int) < (s : Int); omega, hA⟩, ?_⟩
      conv => whnf
      refine ⟨.g (itemC x), ⟨rfl, rfl, hM.rd (o := i * 6 + 0) (by show (i : Int).toNat * 6 = _; rw [Int.toNat_natCast, Nat.add_zero]) rfl (by show 0 < 6; decide) (by rw [itemsV_at hx 0 6 (by omega)]; rfl)⟩, ?_⟩
      conv => whnf
      rw [hwa]
      intro A2 cap2 m2 hS2
      refine ⟨⟨n1.log, A2, cap2, a1 + 1, m2⟩, ⟨wide_cells hw1 hS2, by show n1.log.items.length < 2 ^ 62; omega, ⟨by omega, by omega⟩, ⟨by omega, by omega⟩⟩, ?_⟩
      conv => whnf
      repeat (first | exact trivial | (refine ⟨by first | exact ⟨rfl, rfl, rfl⟩ | rfl | exact ⟨rfl, rfl⟩ | exact ⟨rfl, fun _ _ => rfl⟩ | exact fun _ _ h => h | (intro _ _ h; cases h; done), ?_⟩; conv => whnf))
      intro _ _
      refine ⟨fun hc => ?_, fun hc => ?_⟩
      conv => whnf
      · have hcut : cutB n1 a1 x = true := hc
        have hcn : cutN n1 a1 x = truncN n1 a1 := by unfold cutN; rw [hcut]
        rw [hcn] at hgo
        have hk : (termAtN n1.log (a1 + 1)).2 = true := by unfold cutB at hcut; cases h : (termAtN n1.log (a1 + 1)).2 with | true => rfl | false => rw [h] at hcut; cases hcut
        have hin := known_in hk
        obtain ⟨h, hh⟩ : ∃ h : Nat, h = (a1 - n1.log.base).toNat := ⟨_, rfl⟩
        have hwh : IntKind.i64.wrap (a1 - n1.log.base) = (h : Int) := by rw [wrapi ⟨by omega, by omega⟩]; omega
        have hle : h ≤ n1.log.items.length := by omega
        have hlen : h = (truncN n1 a1).log.items.length := by show _ = (n1.log.items.take (a1 - n1.log.base).toNat).length; rw [List.length_take, ← hh]; omega
        have hw0 := hw1
        have hf0 := hf1
        have hw1 : (truncN n1 a1).log.items.length ≤ ys.length ∧ ys.take (truncN n1 a1).log.items.length = (truncN n1 a1).log.items := by
          refine ⟨by have := hw0.1; omega, ?_⟩
          show _ = n1.log.items.take (a1 - n1.log.base).toNat
          rw [← hlen, ← hh, ← hw0.2, List.take_take, Nat.min_eq_left hle]
        have hf1 : Fit (truncN n1 a1) := ⟨hf0.s1, hf0.s2, hf0.m1, hf0.m2, hf0.b1, hf0.b2, by rw [← hlen]; omega, hf0.c1, hf0.c2⟩
        have hlast1 : (lastN (truncN n1 a1).log).1 = lastI (truncN n1 a1) := last_fit hf1
        have hfll := hf1.l
        have hal : a1 ≤ lastI (truncN n1 a1) := by show a1 ≤ n1.log.base + ((truncN n1 a1).log.items.length : Int); rw [← hlen]; omega
        conv => whnf
        refine Or.inr ⟨[], sc74_6, by kernel_rfl, ?_⟩
        conv => whnf
        rw [hwh]
        repeat (first | exact trivial | (refine ⟨by first | exact ⟨rfl, rfl, rfl⟩ | rfl | exact ⟨rfl, rfl⟩ | exact ⟨rfl, fun _ _ => rfl⟩ | exact fun _ _ h => h | (intro _ _ h; cases h; done) | exact hw0.1 | exact ⟨Int.natCast_nonneg _, by show (h : Int) ≤ (n1.log.items.length : Int); omega⟩, ?_⟩; conv => whnf))
        conv => whnf
        intro A3 cap3 m3 hS3
        refine ⟨⟨((truncN n1 a1)).log, A3, cap3, m3⟩, ⟨wide_cells hw1 hS3, by show ((truncN n1 a1)).log.items.length < 2 ^ 62; omega⟩, ?_⟩
        conv => whnf
        repeat (first | exact trivial | (refine ⟨by first | exact ⟨rfl, rfl, rfl⟩ | rfl | exact ⟨rfl, rfl⟩ | exact ⟨rfl, fun _ _ => rfl⟩ | exact fun _ _ h => h | (intro _ _ h; cases h; done) | exact ⟨rfl, hlen, rfl⟩, ?_⟩; conv => whnf))
        intro _ _
        conv => whnf
        rw [hlast1]
        refine ⟨fun hlt => ?_, fun hge => ?_⟩
        · have hlt : a1 < lastI ((truncN n1 a1)) := of_decide_eq_true hlt
          rw [if_pos hlt] at hgo
          refine ⟨⟨i + 1, (truncN n1 a1), a1 + 1, ys⟩, rfl, ⟨⟨hlt0, hgo, hf1, by show n1.log.base ≤ a1 + 1; omega, by show a1 + 1 ≤ lastI ((truncN n1 a1)); omega, hw1⟩, by show s - (i + 1) < s - i; omega⟩, ?_⟩
          conv => whnf
          repeat (first | exact trivial | (refine ⟨by first | exact ⟨rfl, rfl, rfl⟩ | rfl | exact ⟨rfl, rfl⟩ | exact ⟨rfl, fun _ _ => rfl⟩ | exact fun _ _ h => h | (intro _ _ h; cases h; done) | exact wrapi_succ (by omega) | exact hlen | exact hwa, ?_⟩; conv => whnf))
        · have hge : ¬ a1 < lastI ((truncN n1 a1)) := of_decide_eq_false hge
          rw [if_neg hge] at hgo
          refine ⟨fun hbig => ?_, fun hsm => ?_⟩
          conv => whnf
          · have hbig : ((truncN n1 a1)).log.items.length ≥ 256 := by have h2 : ((h : Nat) : Int) ≥ 256 := of_decide_eq_true hbig; omega
            rw [if_pos hbig] at hgo
            refine ⟨⟨(truncN n1 a1), a1, ys⟩, ⟨hgo, hw1⟩, ?_⟩
            conv => whnf
            repeat (first | exact trivial | exact fun _ _ h => h | (refine ⟨by first | exact ⟨rfl, rfl, rfl⟩ | rfl | exact ⟨rfl, rfl⟩ | exact ⟨rfl, fun _ _ => rfl⟩ | exact fun _ _ h => h | (intro _ _ h; cases h; done) | exact hlen, ?_⟩; conv => whnf))
          · have hsm : ¬ ((truncN n1 a1)).log.items.length ≥ 256 := by have h2 : ¬ ((h : Nat) : Int) ≥ 256 := of_decide_eq_false hsm; omega
            rw [if_neg hsm] at hgo
            have hle : h ≤ ys.length := by have := hw1.1; omega
            have hrow : (itemsV ys).take (h * 6) ++ itemV x = itemsV (((truncN n1 a1)).log.items ++ [x]) := by
              rw [itemsV_append, itemsV_take, hlen, hw1.2]; simp [itemsV]
            have hfp : Fit (pushN ((truncN n1 a1)) x) := ⟨hf1.s1, hf1.s2, hf1.m1, hf1.m2, hf1.b1, hf1.b2, by show (((truncN n1 a1)).log.items ++ [x]).length ≤ 300; rw [List.length_append]; show _ + 1 ≤ 300; omega, hf1.c1, hf1.c2⟩
            have hlp : lastI (pushN ((truncN n1 a1)) x) = lastI ((truncN n1 a1)) + 1 := by show n1.log.base + ((((truncN n1 a1)).log.items ++ [x]).length : Int) = n1.log.base + (((truncN n1 a1)).log.items.length : Int) + 1; rw [List.length_append]; show _ + ((_ + 1 : Nat) : Int) = _; omega
            have hpl : h + 1 = (pushN ((truncN n1 a1)) x).log.items.length := by show _ = (((truncN n1 a1)).log.items ++ [x]).length; rw [List.length_append, ← hlen]; rfl
            conv => whnf
            refine Or.inr ⟨[0, 4], sc74_8, by kernel_rfl, ?_⟩
            conv => whnf
            repeat (first | exact trivial | (refine ⟨by first | exact ⟨rfl, rfl, rfl⟩ | rfl | exact ⟨rfl, rfl⟩ | exact ⟨rfl, fun _ _ => rfl⟩ | exact fun _ _ h => h | (intro _ _ h; cases h; done) | exact Nat.le_refl _ | exact ⟨hle, by show (h + 1) * 56 ≤ _; omega, by omega⟩, ?_⟩; conv => whnf))
            refine ⟨⟨i + 1, pushN ((truncN n1 a1)) x, a1 + 1, ((truncN n1 a1)).log.items ++ [x]⟩, rfl, ⟨⟨hlt0, hgo, hfp, by show n1.log.base ≤ a1 + 1; omega, by rw [hlp]; omega, by show (((truncN n1 a1)).log.items ++ [x]).length ≤ (((truncN n1 a1)).log.items ++ [x]).length; exact Nat.le_refl _, by show (((truncN n1 a1)).log.items ++ [x]).take (((truncN n1 a1)).log.items ++ [x]).length = _; rw [List.take_length]; rfl⟩, by show s - (i + 1) < s - i; omega⟩, ?_⟩
            conv => whnf
            repeat (first | exact trivial | (refine ⟨by first | exact ⟨rfl, rfl, rfl⟩ | rfl | exact ⟨rfl, rfl⟩ | exact ⟨rfl, fun _ _ => rfl⟩ | exact fun _ _ h => h | (intro _ _ h; cases h; done) | exact wrapi_succ (by omega) | exact hpl | exact hwa | exact ⟨hpl, hrow⟩, ?_⟩; conv => whnf))
      · have hcut : cutB n1 a1 x = false := hc
        have hcn : cutN n1 a1 x = n1 := by unfold cutN; rw [hcut]
        rw [hcn] at hgo
        have hlast1 : (lastN n1.log).1 = lastI n1 := last_fit hf1
        have hlen : n1.log.items.length = n1.log.items.length := rfl
        have hal := hb2
        conv => whnf
        intro A3 cap3 m3 hS3
        refine ⟨⟨(n1).log, A3, cap3, m3⟩, ⟨wide_cells hw1 hS3, by show (n1).log.items.length < 2 ^ 62; omega⟩, ?_⟩
        conv => whnf
        repeat (first | exact trivial | (refine ⟨by first | exact ⟨rfl, rfl, rfl⟩ | rfl | exact ⟨rfl, rfl⟩ | exact ⟨rfl, fun _ _ => rfl⟩ | exact fun _ _ h => h | (intro _ _ h; cases h; done) | exact ⟨rfl, hlen, rfl⟩, ?_⟩; conv => whnf))
        intro _ _
        conv => whnf
        rw [hlast1]
        refine ⟨fun hlt => ?_, fun hge => ?_⟩
        · have hlt : a1 < lastI (n1) := of_decide_eq_true hlt
          rw [if_pos hlt] at hgo
          refine ⟨⟨i + 1, n1, a1 + 1, ys⟩, rfl, ⟨⟨hlt0, hgo, hf1, by show n1.log.base ≤ a1 + 1; omega, by show a1 + 1 ≤ lastI (n1); omega, hw1⟩, by show s - (i + 1) < s - i; omega⟩, ?_⟩
          conv => whnf
          repeat (first | exact trivial | (refine ⟨by first | exact ⟨rfl, rfl, rfl⟩ | rfl | exact ⟨rfl, rfl⟩ | exact ⟨rfl, fun _ _ => rfl⟩ | exact fun _ _ h => h | (intro _ _ h; cases h; done) | exact wrapi_succ (by omega) | exact hlen | exact hwa, ?_⟩; conv => whnf))
        · have hge : ¬ a1 < lastI (n1) := of_decide_eq_false hge
          rw [if_neg hge] at hgo
          refine ⟨fun hbig => ?_, fun hsm => ?_⟩
          conv => whnf
          · have hbig : (n1).log.items.length ≥ 256 := by have h2 : ((n1.log.items.length : Nat) : Int) ≥ 256 := of_decide_eq_true hbig; omega
            rw [if_pos hbig] at hgo
            refine ⟨⟨n1, a1, ys⟩, ⟨hgo, hw1⟩, ?_⟩
            conv => whnf
            repeat (first | exact trivial | exact fun _ _ h => h | (refine ⟨by first | exact ⟨rfl, rfl, rfl⟩ | rfl | exact ⟨rfl, rfl⟩ | exact ⟨rfl, fun _ _ => rfl⟩ | exact fun _ _ h => h | (intro _ _ h; cases h; done) | exact hlen, ?_⟩; conv => whnf))
          · have hsm : ¬ (n1).log.items.length ≥ 256 := by have h2 : ¬ ((n1.log.items.length : Nat) : Int) ≥ 256 := of_decide_eq_false hsm; omega
            rw [if_neg hsm] at hgo
            have hle : n1.log.items.length ≤ ys.length := by have := hw1.1; omega
            have hrow : (itemsV ys).take (n1.log.items.length * 6) ++ itemV x = itemsV ((n1).log.items ++ [x]) := by
              rw [itemsV_append, itemsV_take, hlen, hw1.2]; simp [itemsV]
            have hfp : Fit (pushN (n1) x) := ⟨hf1.s1, hf1.s2, hf1.m1, hf1.m2, hf1.b1, hf1.b2, by show ((n1).log.items ++ [x]).length ≤ 300; rw [List.length_append]; show _ + 1 ≤ 300; omega, hf1.c1, hf1.c2⟩
            have hlp : lastI (pushN (n1) x) = lastI (n1) + 1 := by show n1.log.base + (((n1).log.items ++ [x]).length : Int) = n1.log.base + ((n1).log.items.length : Int) + 1; rw [List.length_append]; show _ + ((_ + 1 : Nat) : Int) = _; omega
            have hpl : n1.log.items.length + 1 = (pushN (n1) x).log.items.length := by show _ = ((n1).log.items ++ [x]).length; rw [List.length_append, ← hlen]; rfl
            conv => whnf
            refine Or.inr ⟨[0, 4], sc74_8, by kernel_rfl, ?_⟩
            conv => whnf
            repeat (first | exact trivial | (refine ⟨by first | exact ⟨rfl, rfl, rfl⟩ | rfl | exact ⟨rfl, rfl⟩ | exact ⟨rfl, fun _ _ => rfl⟩ | exact fun _ _ h => h | (intro _ _ h; cases h; done) | exact Nat.le_refl _ | exact ⟨hle, by show (n1.log.items.length + 1) * 56 ≤ _; omega, by omega⟩, ?_⟩; conv => whnf))
            refine ⟨⟨i + 1, pushN (n1) x, a1 + 1, (n1).log.items ++ [x]⟩, rfl, ⟨⟨hlt0, hgo, hfp, by show n1.log.base ≤ a1 + 1; omega, by rw [hlp]; omega, by show ((n1).log.items ++ [x]).length ≤ ((n1).log.items ++ [x]).length; exact Nat.le_refl _, by show ((n1).log.items ++ [x]).take ((n1).log.items ++ [x]).length = _; rw [List.take_length]; rfl⟩, by show s - (i + 1) < s - i; omega⟩, ?_⟩
            conv => whnf
            repeat (first | exact trivial | (refine ⟨by first | exact ⟨rfl, rfl, rfl⟩ | rfl | exact ⟨rfl, rfl⟩ | exact ⟨rfl, fun _ _ => rfl⟩ | exact fun _ _ h => h | (intro _ _ h; cases h; done) | exact wrapi_succ (by omega) | exact hpl | exact hwa | exact ⟨hpl, hrow⟩, ?_⟩; conv => whnf))
    · have hge : i = s := by have h2 : ¬ (i : Int) < (s : Int) := of_decide_eq_false hge; omega
      rw [hge, hs, List.drop_length] at hgo
      refine ⟨⟨n1, a1, ys⟩, ⟨hgo, hw1⟩, ?_⟩
      conv => whnf
      repeat (first | exact trivial | exact fun _ _ h => h | (refine ⟨by first | exact ⟨rfl, rfl, rfl⟩ | rfl | exact ⟨rfl, rfl⟩ | exact ⟨rfl, fun _ _ => rfl⟩ | exact fun _ _ h => h | (intro _ _ h; cases h; done), ?_⟩; conv => whnf))
end Go.Proofs.Ytjpjiniclibgkaa.Sx

namespace Go.Proofs.Ytjpjiniclibgkaa.Sx
open Go

/-- A node, and what it answers, if anything. -/
structure HeardR where
  n : Node
  k : Option Msg
def ansM (last : Int) (yes : Bool) : Msg := mkM 4 last 0 0 yes [] ByteArray.empty
def layR (n : Node) (k : Msg) (a : Int) (xs : List Item) : HeardR :=
  if clashB n a xs = true then ⟨n, none⟩ else ⟨{ (layGo n a xs).n with commit := max (layGo n a xs).n.commit (min k.commit (layGo n a xs).a) }, some (ansM (layGo n a xs).a true)⟩
def skipI (n : Node) (k : Msg) : Nat := min (n.log.base - k.last).toNat k.items.length
def termOf (xs : List Item) (i : Nat) : Int := match xs[i]? with
  | some x => x.term
  | none => 0
def appendR (n : Node) (k : Msg) : HeardR :=
  if k.last < n.log.base then
    if k.last + (skipI n k : Int) = n.log.base ∧ termOf k.items (skipI n k - 1) ≠ n.log.baseTerm then ⟨n, none⟩
    else if k.last + (skipI n k : Int) < n.log.base then ⟨n, some (ansM n.log.base true)⟩
    else layR n k (k.last + (skipI n k : Int)) (k.items.drop (skipI n k))
  else if (termAtN n.log k.last).2 = false ∨ (termAtN n.log k.last).1 ≠ k.lastTerm then ⟨n, some (ansM (max (min (lastI n) (k.last - 1)) n.log.base) false)⟩
  else layR n k k.last k.items
/-- What is said in answer. -/
def repl1 (n : Node) (k : Msg) (r : HeardR) : List Msg := match r.k with
  | some a => [sayN n k.frm a]
  | none => []
structure HearG where
  n : Node
  os : List OMsg
  m : Mem
  k : Msg
  D : Option Addr
  e : Nat
structure HearB where
  n : Node
  ys : List Item
  os : List OMsg
def hearSpec (t : TypeId) (f : Node → Msg → HeardR) : Spec where
  A := HearG
  R := fun ⟨n, os, m, k, D, e⟩ => Fit n ∧ (0 ≤ k.last ∧ k.last ≤ 2 ^ 41 ∧ 0 ≤ k.commit ∧ k.commit ≤ 2 ^ 41) ∧ k.items.length ≤ 1000 ∧ (Cells m D (itemsV k.items) ∧ k.items.length ≤ e) ∧ Said m os ∧ os.length < 600
  J := fun ⟨_, _, m, _, _, _⟩ => m
  args := fun ⟨_, _, _, k, D, e⟩ => [.p 0 0, .g (msgC k (.sl D k.items.length e))]
  h := fun ⟨n, os, _, _, _, _⟩ => turnH t 1 2 n .own os
  nx := 3
  Bb := HearB
  C := fun ⟨n, os, m, k, _, _⟩ ⟨n', ys, os'⟩ => n' = (f n k).n ∧ (n'.log.items.length ≤ ys.length ∧ ys.take n'.log.items.length = n'.log.items) ∧ Since m os os' (repl1 n k (f n k)) ∧ Said m os'
  out := fun _ _ => .ret (.t [])
  h2 := fun _ ⟨n', ys, os'⟩ => turnH t 3 4 n' (.wide ys) os'
  nx2 := 5
def S9 : List (Nat × Spec) := (73, clashSpec 78) :: (74, laySpec 78) :: (48, leadSpec 78) :: (56, leadSpec 85) :: (49, gotSpec 78 true) :: (57, gotSpec 85 false) :: S8
theorem S9_all : ∀ f s, findS S9 f = some s → SpecOk Try.prog f s := CP_cons (CP_cons (CP_cons (CP_cons (CP_cons (CP_cons S8_all refGot_ok) got_ok) votes_ok) lead_ok) lay_ok) clash_ok
theorem S9_ok : CPOk Try.prog (CPs S9) := CPs_ok S9_all
theorem lay_keeps : ∀ (xs : List Item) (n : Node) (a : Int), (layGo n a xs).n.me = n.me ∧ (layGo n a xs).n.log.term = n.log.term ∧ (layGo n a xs).n.commit = n.commit
  | [], _, _ => ⟨rfl, rfl, rfl⟩
  | x :: r, n, a => by
    have hc : (cutN n a x).me = n.me ∧ (cutN n a x).log.term = n.log.term ∧ (cutN n a x).commit = n.commit := by unfold cutN; split <;> exact ⟨rfl, rfl, rfl⟩
    simp only [layGo]
    split
    · have := lay_keeps r (cutN n a x) (a + 1)
      exact ⟨this.1.trans hc.1, this.2.1.trans hc.2.1, this.2.2.trans hc.2.2⟩
    · split
      · exact hc
      · have := lay_keeps r (pushN (cutN n a x) x) (a + 1)
        exact ⟨this.1.trans hc.1, this.2.1.trans hc.2.1, this.2.2.trans hc.2.2⟩
set_option maxRecDepth 100000 in
set_option maxHeartbeats 1600000 in
theorem append_ok : SpecOk Try.prog 51 (hearSpec 78 appendR) := by
  refine spec_of_exec (fn := Try.f51) (c := Try.f51.body.getD .skip) (d := 0) (lv := ([0, 1, 3, 4, 5, 6, 7, 8, 9, 22, 58, 72, 101, 130])) (DP := DPx T1 (CPs S9) ([0, 1, 3, 4, 5, 6, 7, 8, 9, 22, 58, 72, 101, 130])) T1_ok S9_ok (fun B => DPx_ok T1_ok ord S9_ok B) (hearSpec 78 appendR) (by rfl) (by rfl) (by rfl) (fun _ => Nat.le_of_ble_eq_true (by kernel_rfl)) ?_
  rintro ⟨n, os, m, k, D, e⟩ ⟨hf0, ⟨hk1, hk2, hk3, hk4⟩, hil, ⟨hM, hcap⟩, hsaid, hos⟩
  obtain ⟨hs1, hs2, hm1, hm2, hb1, hb2, hl, hc1, hc2⟩ := hf0
  have hf0 : Fit n := ⟨hs1, hs2, hm1, hm2, hb1, hb2, hl, hc1, hc2⟩
  have hlast : (lastN n.log).1 = lastI n := last_fit hf0
  have hli : lastI n = n.log.base + n.log.items.length := rfl
  conv => whnf
  refine Or.inr ⟨[], sc51_1, by kernel_rfl, ?_⟩
  conv => whnf
  refine ⟨fun hlow => ?_, fun hhigh => ?_⟩
  conv => whnf
  · have hlow : k.last < n.log.base := of_decide_eq_true hlow
    obtain ⟨sk, hsk⟩ : ∃ sk, sk = skipI n k := ⟨_, rfl⟩
    have hskv : sk = min (n.log.base - k.last).toNat k.items.length := hsk
    have hmin : (if (k.items.length : Int) < IntKind.i64.wrap (n.log.base - k.last) then (k.items.length : Int) else IntKind.i64.wrap (n.log.base - k.last)) = (sk : Int) := by
      rw [wrapi ⟨by omega, by omega⟩]; split <;> omega
    have hw1 : IntKind.i64.wrap (k.last + (sk : Int)) = k.last + (sk : Int) := wrapi ⟨by omega, by omega⟩
    have hw2 : IntKind.i64.wrap ((sk : Int) - 1) = (sk : Int) - 1 := wrapi ⟨by omega, by omega⟩
    conv => whnf
    rw [hmin]
    refine Or.inr ⟨[], sc51_4, by kernel_rfl, ?_⟩
    conv => whnf
    have hin : ((IntKind.i64.wrap (k.last + (sk : Int)) == n.log.base) == true && true) = true → k.last + (sk : Int) = n.log.base ∧ 1 ≤ sk ∧ sk ≤ k.items.length := by
      intro ht
      have h1 : k.last + (sk : Int) = n.log.base := by rw [hw1] at ht; simpa using ht
      omega
    refine ⟨fun ht => (by have h := hin ht; rw [hw2]; exact ⟨by omega, by omega, hM.some' (by omega)⟩), ?_⟩
    conv => whnf
    refine ⟨fun ht => hM.some' (by have h := hin ht; omega), ?_⟩
    conv => whnf
    refine ⟨.i .i64 (termOf k.items (sk - 1)), ⟨rfl, rfl, fun ht => ?_⟩, ?_⟩
    conv => whnf
    · obtain ⟨h1, h2, h3⟩ := hin ht
      obtain ⟨x, hx⟩ : ∃ x, k.items[sk - 1]? = some x := ⟨_, List.getElem?_eq_getElem (by omega)⟩
      have htx : termOf k.items (sk - 1) = x.term := by unfold termOf; rw [hx]
      refine hM.rd (o := (sk - 1) * 6 + 0) (by show (IntKind.i64.wrap ((sk : Int) - 1)).toNat * 6 + 0 = _; rw [hw2]; omega) rfl (by decide) (by rw [itemsV_at hx 0 1 (by omega), htx]; rfl)
    conv => whnf
    rw [hw1]
    refine ⟨fun hy => ?_, fun hn => ?_⟩
    · rw [ifand] at hy
      have hr : appendR n k = ⟨n, none⟩ := by
        unfold appendR
        rw [if_pos hlow, ← hsk, if_pos]
        simpa [bne] using hy
      refine ⟨⟨n, n.log.items, os⟩, ⟨by rw [hr], ⟨Nat.le_refl _, List.take_length⟩, by rw [hr]; exact Since.refl os, hsaid⟩, ?_⟩
      conv => whnf
      repeat (first | exact trivial | exact fun _ _ h => h | (refine ⟨by first | exact ⟨rfl, rfl, rfl⟩ | rfl | exact ⟨rfl, rfl⟩ | exact ⟨rfl, fun _ _ => rfl⟩ | exact fun _ _ h => h | (intro _ _ h; cases h; done), ?_⟩; conv => whnf))
    · have hn2 : ¬ (k.last + (sk : Int) = n.log.base ∧ termOf k.items (sk - 1) ≠ n.log.baseTerm) := by
        rw [ifand] at hn
        simpa [bne] using hn
      conv => whnf
      refine Or.inr ⟨[], sc51_5, by kernel_rfl, ?_⟩
      conv => whnf
      repeat (first | exact trivial | (refine ⟨by first | exact ⟨rfl, rfl, rfl⟩ | rfl | exact ⟨rfl, rfl⟩ | exact ⟨rfl, fun _ _ => rfl⟩ | exact fun _ _ h => h | (intro _ _ h; cases h; done) | exact ⟨Int.natCast_nonneg _, by show (sk : Int) ≤ (k.items.length : Int); omega⟩, ?_⟩; conv => whnf))
      rw [hw1]
      refine ⟨fun hlo => ?_, fun hok => ?_⟩
      · have hlo : k.last + (sk : Int) < n.log.base := of_decide_eq_true hlo
        have hr : appendR n k = ⟨n, some (ansM n.log.base true)⟩ := by
          unfold appendR
          rw [if_pos hlow, ← hsk, if_neg hn2, if_pos hlo]
        conv => whnf
        refine Or.inr ⟨[], sc51_7, by kernel_rfl, ?_⟩
        conv => whnf
        refine ⟨⟨n, .own, os, m, k.frm, ansM n.log.base true, none, 0⟩, ⟨by show os.length < 1000; omega, Cells.nil _ _⟩, ?_⟩
        conv => whnf
        repeat (first | exact trivial | (refine ⟨by first | exact ⟨rfl, rfl, rfl⟩ | rfl | exact ⟨rfl, rfl⟩ | exact ⟨rfl, fun _ _ => rfl⟩ | exact fun _ _ h => h | (intro _ _ h; cases h; done), ?_⟩; conv => whnf))
        rintro b rfl
        refine ⟨⟨n, n.log.items, os ++ [⟨sayN n k.frm (ansM n.log.base true), none, 0⟩]⟩, ⟨by rw [hr], ⟨Nat.le_refl _, List.take_length⟩, by rw [hr]; exact (Since.refl os).snoc rfl, hsaid.snoc (Cells.nil _ _)⟩, ?_⟩
        conv => whnf
        repeat (first | exact trivial | exact fun _ _ h => h | (refine ⟨by first | exact ⟨rfl, rfl, rfl⟩ | rfl | exact ⟨rfl, rfl⟩ | exact ⟨rfl, fun _ _ => rfl⟩ | exact fun _ _ h => h | (intro _ _ h; cases h; done), ?_⟩; conv => whnf))
      · have hok : ¬ k.last + (sk : Int) < n.log.base := of_decide_eq_false hok
        have happ : appendR n k = layR n k (k.last + (sk : Int)) (k.items.drop sk) := by
          unfold appendR
          rw [if_pos hlow, ← hsk, if_neg hn2, if_neg hok]
        have hxl : k.items.length - sk = (k.items.drop sk).length := List.length_drop.symm
        have hxc : Cells m (if e = (sk : Int).toNat then D else D.map (·.add ((sk : Int).toNat * 6))) (itemsV (k.items.drop sk)) := hM.slice hcap
        conv => whnf
        refine ⟨⟨n, os, m, k.last + (sk : Int), (k.items.drop sk), (if e = (sk : Int).toNat then D else D.map (·.add ((sk : Int).toNat * 6))), (e - (sk : Int).toNat)⟩, ⟨hf0, by omega, by omega, by omega, hxc⟩, ?_⟩
        conv => whnf
        repeat (first | exact trivial | (refine ⟨by first | exact ⟨rfl, rfl, rfl⟩ | rfl | exact ⟨rfl, rfl⟩ | exact ⟨rfl, fun _ _ => rfl⟩ | exact fun _ _ h => h | (intro _ _ h; cases h; done) | exact ⟨rfl, hxl, rfl⟩, ?_⟩; conv => whnf))
        intro _ _
        refine ⟨fun hcl => ?_, fun hcl => ?_⟩
        conv => whnf
        · have hr : appendR n k = ⟨n, none⟩ := by rw [happ]; unfold layR; rw [if_pos hcl]
          refine ⟨⟨n, n.log.items, os⟩, ⟨by rw [hr], ⟨Nat.le_refl _, List.take_length⟩, by rw [hr]; exact Since.refl os, hsaid⟩, ?_⟩
          conv => whnf
          repeat (first | exact trivial | exact fun _ _ h => h | (refine ⟨by first | exact ⟨rfl, rfl, rfl⟩ | rfl | exact ⟨rfl, rfl⟩ | exact ⟨rfl, fun _ _ => rfl⟩ | exact fun _ _ h => h | (intro _ _ h; cases h; done), ?_⟩; conv => whnf))
        · refine ⟨⟨n, os, m, k.last + (sk : Int), (k.items.drop sk), (if e = (sk : Int).toNat then D else D.map (·.add ((sk : Int).toNat * 6))), (e - (sk : Int).toNat)⟩, ⟨hf0, by omega, by omega, by omega, hxc⟩, ?_⟩
          conv => whnf
          repeat (first | exact trivial | (refine ⟨by first | exact ⟨rfl, rfl, rfl⟩ | rfl | exact ⟨rfl, rfl⟩ | exact ⟨rfl, fun _ _ => rfl⟩ | exact fun _ _ h => h | (intro _ _ h; cases h; done) | exact ⟨rfl, hxl, rfl⟩, ?_⟩; conv => whnf))
          rintro ⟨n', a', ys⟩ ⟨hgo, hw⟩
          have hk := lay_keeps (k.items.drop sk) n (k.last + (sk : Int))
          rw [hgo] at hk
          have hk1 : n'.me = n.me := hk.1
          have hk2 : n'.log.term = n.log.term := hk.2.1
          have hr : appendR n k = ⟨{ n' with commit := max n'.commit (min k.commit a') }, some (ansM a' true)⟩ := by rw [happ]; unfold layR; rw [if_neg (by rw [hcl]; decide), hgo]
          have hmx : (if n'.commit < (if a' < k.commit then a' else k.commit) then (if a' < k.commit then a' else k.commit) else n'.commit) = max n'.commit (min k.commit a') := by split <;> split <;> omega
          conv => whnf
          refine Or.inr ⟨[], sc51_14, by kernel_rfl, ?_⟩
          conv => whnf
          repeat (first | exact trivial | (refine ⟨by first | exact ⟨rfl, rfl, rfl⟩ | rfl | exact ⟨rfl, rfl⟩ | exact ⟨rfl, fun _ _ => rfl⟩ | exact fun _ _ h => h | (intro _ _ h; cases h; done), ?_⟩; conv => whnf))
          rw [hmx]
          refine ⟨⟨{ n' with commit := max n'.commit (min k.commit a') }, .wide ys, os, m, k.frm, ansM a' true, none, 0⟩, ⟨by show os.length < 1000; omega, Cells.nil _ _⟩, ?_⟩
          conv => whnf
          repeat (first | exact trivial | (refine ⟨by first | exact ⟨rfl, rfl, rfl⟩ | rfl | exact ⟨rfl, rfl⟩ | exact ⟨rfl, fun _ _ => rfl⟩ | exact fun _ _ h => h | (intro _ _ h; cases h; done), ?_⟩; conv => whnf))
          rintro b rfl
          have hsn : sayN { n' with commit := max n'.commit (min k.commit a') } k.frm (ansM a' true) = sayN n k.frm (ansM a' true) := by unfold sayN; simp only [hk1, hk2]
          refine ⟨⟨{ n' with commit := max n'.commit (min k.commit a') }, ys, os ++ [⟨sayN { n' with commit := max n'.commit (min k.commit a') } k.frm (ansM a' true), none, 0⟩]⟩, ⟨by rw [hr], hw, by rw [hr]; exact (Since.refl os).snoc hsn, hsaid.snoc (Cells.nil _ _)⟩, ?_⟩
          conv => whnf
          repeat (first | exact trivial | exact fun _ _ h => h | (refine ⟨by first | exact ⟨rfl, rfl, rfl⟩ | rfl | exact ⟨rfl, rfl⟩ | exact ⟨rfl, fun _ _ => rfl⟩ | exact fun _ _ h => h | (intro _ _ h; cases h; done), ?_⟩; conv => whnf))
  · have hhigh : ¬ k.last < n.log.base := of_decide_eq_false hhigh
    conv => whnf
    intro A2 cap2 m2 hS2
    refine ⟨⟨n.log, A2, cap2, k.last, m2⟩, ⟨.of_sealed hS2, by show n.log.items.length < 2 ^ 62; omega, ⟨by omega, by omega⟩, ⟨by omega, by omega⟩⟩, ?_⟩
    conv => whnf
    repeat (first | exact trivial | (refine ⟨by first | exact ⟨rfl, rfl, rfl⟩ | rfl | exact ⟨rfl, rfl⟩ | exact ⟨rfl, fun _ _ => rfl⟩ | exact fun _ _ h => h | (intro _ _ h; cases h; done), ?_⟩; conv => whnf))
    intro _ _
    conv => whnf
    refine ⟨fun hy => ?_, fun hn => ?_⟩
    · rw [ifor] at hy
      have hr : appendR n k = ⟨n, some (ansM (max (min (lastI n) (k.last - 1)) n.log.base) false)⟩ := by
        unfold appendR
        rw [if_neg hhigh, if_pos]
        simpa [bne] using hy
      have hw1 : IntKind.i64.wrap (k.last - 1) = k.last - 1 := wrapi ⟨by omega, by omega⟩
      have hmm : (if (if k.last - 1 < lastI n then k.last - 1 else lastI n) < n.log.base then n.log.base else (if k.last - 1 < lastI n then k.last - 1 else lastI n)) = max (min (lastI n) (k.last - 1)) n.log.base := by split <;> split <;> omega
      conv => whnf
      intro A3 cap3 m3 hS3
      refine ⟨⟨n.log, A3, cap3, m3⟩, ⟨.of_sealed hS3, by show n.log.items.length < 2 ^ 62; omega⟩, ?_⟩
      conv => whnf
      repeat (first | exact trivial | (refine ⟨by first | exact ⟨rfl, rfl, rfl⟩ | rfl | exact ⟨rfl, rfl⟩ | exact ⟨rfl, fun _ _ => rfl⟩ | exact fun _ _ h => h | (intro _ _ h; cases h; done), ?_⟩; conv => whnf))
      intro _ _
      conv => whnf
      rw [hlast]
      refine Or.inr ⟨[], sc51_11, by kernel_rfl, ?_⟩
      conv => whnf
      rw [hw1, hmm]
      refine ⟨⟨n, .own, os, m, k.frm, ansM (max (min (lastI n) (k.last - 1)) n.log.base) false, none, 0⟩, ⟨by show os.length < 1000; omega, Cells.nil _ _⟩, ?_⟩
      conv => whnf
      repeat (first | exact trivial | (refine ⟨by first | exact ⟨rfl, rfl, rfl⟩ | rfl | exact ⟨rfl, rfl⟩ | exact ⟨rfl, fun _ _ => rfl⟩ | exact fun _ _ h => h | (intro _ _ h; cases h; done), ?_⟩; conv => whnf))
      rintro b rfl
      refine ⟨⟨n, n.log.items, os ++ [⟨sayN n k.frm (ansM (max (min (lastI n) (k.last - 1)) n.log.base) false), none, 0⟩]⟩, ⟨by rw [hr], ⟨Nat.le_refl _, List.take_length⟩, by rw [hr]; exact (Since.refl os).snoc rfl, hsaid.snoc (Cells.nil _ _)⟩, ?_⟩
      conv => whnf
      repeat (first | exact trivial | exact fun _ _ h => h | (refine ⟨by first | exact ⟨rfl, rfl, rfl⟩ | rfl | exact ⟨rfl, rfl⟩ | exact ⟨rfl, fun _ _ => rfl⟩ | exact fun _ _ h => h | (intro _ _ h; cases h; done), ?_⟩; conv => whnf))
    · rw [ifor] at hn
      have hn2 : ¬ ((termAtN n.log k.last).2 = false ∨ (termAtN n.log k.last).1 ≠ k.lastTerm) := by
        simpa [bne] using hn
      have happ : appendR n k = layR n k k.last k.items := by
        unfold appendR
        rw [if_neg hhigh, if_neg hn2]
      have hknown : (termAtN n.log k.last).2 = true := by
        cases h : (termAtN n.log k.last).2 with
        | true => rfl
        | false => exact absurd (.inl h) hn2
      have hin := known_in hknown
      have hxl : k.items.length = k.items.length := rfl
      have hxc := hM
      conv => whnf
      refine ⟨⟨n, os, m, k.last, k.items, D, e⟩, ⟨hf0, by omega, by omega, by omega, hxc⟩, ?_⟩
      conv => whnf
      repeat (first | exact trivial | (refine ⟨by first | exact ⟨rfl, rfl, rfl⟩ | rfl | exact ⟨rfl, rfl⟩ | exact ⟨rfl, fun _ _ => rfl⟩ | exact fun _ _ h => h | (intro _ _ h; cases h; done) | exact ⟨rfl, hxl, rfl⟩, ?_⟩; conv => whnf))
      intro _ _
      refine ⟨fun hcl => ?_, fun hcl => ?_⟩
      conv => whnf
      · have hr : appendR n k = ⟨n, none⟩ := by rw [happ]; unfold layR; rw [if_pos hcl]
        refine ⟨⟨n, n.log.items, os⟩, ⟨by rw [hr], ⟨Nat.le_refl _, List.take_length⟩, by rw [hr]; exact Since.refl os, hsaid⟩, ?_⟩
        conv => whnf
        repeat (first | exact trivial | exact fun _ _ h => h | (refine ⟨by first | exact ⟨rfl, rfl, rfl⟩ | rfl | exact ⟨rfl, rfl⟩ | exact ⟨rfl, fun _ _ => rfl⟩ | exact fun _ _ h => h | (intro _ _ h; cases h; done), ?_⟩; conv => whnf))
      · refine ⟨⟨n, os, m, k.last, k.items, D, e⟩, ⟨hf0, by omega, by omega, by omega, hxc⟩, ?_⟩
        conv => whnf
        repeat (first | exact trivial | (refine ⟨by first | exact ⟨rfl, rfl, rfl⟩ | rfl | exact ⟨rfl, rfl⟩ | exact ⟨rfl, fun _ _ => rfl⟩ | exact fun _ _ h => h | (intro _ _ h; cases h; done) | exact ⟨rfl, hxl, rfl⟩, ?_⟩; conv => whnf))
        rintro ⟨n', a', ys⟩ ⟨hgo, hw⟩
        have hk := lay_keeps k.items n (k.last)
        rw [hgo] at hk
        have hk1 : n'.me = n.me := hk.1
        have hk2 : n'.log.term = n.log.term := hk.2.1
        have hr : appendR n k = ⟨{ n' with commit := max n'.commit (min k.commit a') }, some (ansM a' true)⟩ := by rw [happ]; unfold layR; rw [if_neg (by rw [hcl]; decide), hgo]
        have hmx : (if n'.commit < (if a' < k.commit then a' else k.commit) then (if a' < k.commit then a' else k.commit) else n'.commit) = max n'.commit (min k.commit a') := by split <;> split <;> omega
        conv => whnf
        refine Or.inr ⟨[], sc51_14, by kernel_rfl, ?_⟩
        conv => whnf
        repeat (first | exact trivial | (refine ⟨by first | exact ⟨rfl, rfl, rfl⟩ | rfl | exact ⟨rfl, rfl⟩ | exact ⟨rfl, fun _ _ => rfl⟩ | exact fun _ _ h => h | (intro _ _ h; cases h; done), ?_⟩; conv => whnf))
        rw [hmx]
        refine ⟨⟨{ n' with commit := max n'.commit (min k.commit a') }, .wide ys, os, m, k.frm, ansM a' true, none, 0⟩, ⟨by show os.length < 1000; omega, Cells.nil _ _⟩, ?_⟩
        conv => whnf
        repeat (first | exact trivial | (refine ⟨by first | exact ⟨rfl, rfl, rfl⟩ | rfl | exact ⟨rfl, rfl⟩ | exact ⟨rfl, fun _ _ => rfl⟩ | exact fun _ _ h => h | (intro _ _ h; cases h; done), ?_⟩; conv => whnf))
        rintro b rfl
        have hsn : sayN { n' with commit := max n'.commit (min k.commit a') } k.frm (ansM a' true) = sayN n k.frm (ansM a' true) := by unfold sayN; simp only [hk1, hk2]
        refine ⟨⟨{ n' with commit := max n'.commit (min k.commit a') }, ys, os ++ [⟨sayN { n' with commit := max n'.commit (min k.commit a') } k.frm (ansM a' true), none, 0⟩]⟩, ⟨by rw [hr], hw, by rw [hr]; exact (Since.refl os).snoc hsn, hsaid.snoc (Cells.nil _ _)⟩, ?_⟩
        conv => whnf
        repeat (first | exact trivial | exact fun _ _ h => h | (refine ⟨by first | exact ⟨rfl, rfl, rfl⟩ | rfl | exact ⟨rfl, rfl⟩ | exact ⟨rfl, fun _ _ => rfl⟩ | exact fun _ _ h => h | (intro _ _ h; cases h; done), ?_⟩; conv => whnf))
end Go.Proofs.Ytjpjiniclibgkaa.Sx

namespace Go.Proofs.Ytjpjiniclibgkaa.Sx
open Go

def bookN (n : Node) (k : Msg) (rest : List Item) : Node :=
  { n with log := { n.log with base := k.last, baseTerm := k.lastTerm, book := k.book, items := rest }, commit := k.last }
def restL (n : Node) (k : Msg) : List Item :=
  if (termAtN n.log k.last).2 = true ∧ (termAtN n.log k.last).1 = k.lastTerm then n.log.items.drop (k.last - n.log.base).toNat else []
def installR (n : Node) (k : Msg) : HeardR :=
  if k.last > n.commit then ⟨bookN n k (restL n k), some (ansM k.last true)⟩ else ⟨n, some (ansM n.commit true)⟩
def S10 : List (Nat × Spec) := (51, hearSpec 78 appendR) :: S9
theorem S10_all : ∀ f s, findS S10 f = some s → SpecOk Try.prog f s := CP_cons S9_all append_ok
theorem S10_ok : CPOk Try.prog (CPs S10) := CPs_ok S10_all
set_option maxRecDepth 100000 in
set_option maxHeartbeats 1600000 in
theorem install_ok : SpecOk Try.prog 52 (hearSpec 78 installR) := by
  refine spec_of_exec (fn := Try.f52) (c := Try.f52.body.getD .skip) (d := 0) (lv := ([0, 1, 3, 4, 5, 6, 14, 32])) (DP := DPx T1 (CPs S10) ([0, 1, 3, 4, 5, 6, 14, 32])) T1_ok S10_ok (fun B => DPx_ok T1_ok ord S10_ok B) (hearSpec 78 installR) (by rfl) (by rfl) (by rfl) (fun _ => Nat.le_of_ble_eq_true (by kernel_rfl)) ?_
  rintro ⟨n, os, m, k, D, e⟩ ⟨hf0, ⟨hk1, hk2, hk3, hk4⟩, hil, ⟨hM, hcap⟩, hsaid, hos⟩
  obtain ⟨hs1, hs2, hm1, hm2, hb1, hb2, hl, hc1, hc2⟩ := hf0
  have hf0 : Fit n := ⟨hs1, hs2, hm1, hm2, hb1, hb2, hl, hc1, hc2⟩
  conv => whnf
  refine Or.inr ⟨[], sc52_1, by kernel_rfl, ?_⟩
  conv => whnf
  refine ⟨fun hyes => ?_, fun hno => ?_⟩
  conv => whnf
  · have hyes : k.last > n.commit := of_decide_eq_true hyes
    conv => whnf
    refine Or.inr ⟨[], sc52_2, by kernel_rfl, ?_⟩
    conv => whnf
    intro A2 cap2 m2 hS2
    refine ⟨⟨n.log, A2, cap2, k.last, m2⟩, ⟨.of_sealed hS2, by show n.log.items.length < 2 ^ 62; omega, ⟨by omega, by omega⟩, ⟨by omega, by omega⟩⟩, ?_⟩
    conv => whnf
    repeat (first | exact trivial | (refine ⟨by first | exact ⟨rfl, rfl, rfl⟩ | rfl | exact ⟨rfl, rfl⟩ | exact ⟨rfl, fun _ _ => rfl⟩ | exact fun _ _ h => h | (intro _ _ h; cases h; done), ?_⟩; conv => whnf))
    intro _ _
    refine ⟨fun hy => ?_, fun hn => ?_⟩
    conv => whnf
    · rw [ifand] at hy
      have hk : (termAtN n.log k.last).2 = true ∧ (termAtN n.log k.last).1 = k.lastTerm := by simpa using hy
      have hin := known_in hk.1
      obtain ⟨l, hl0⟩ : ∃ l : Nat, l = (k.last - n.log.base).toNat := ⟨_, rfl⟩
      have hwl : IntKind.i64.wrap (k.last - n.log.base) = (l : Int) := by rw [wrapi ⟨by omega, by omega⟩]; omega
      have hrest : restL n k = n.log.items.drop l := by unfold restL; rw [if_pos hk, ← hl0]
      have hr : installR n k = ⟨bookN n k (n.log.items.drop l), some (ansM k.last true)⟩ := by unfold installR; rw [if_pos hyes, hrest]
      have hxl : n.log.items.length - l = (n.log.items.drop l).length := List.length_drop.symm
      conv => whnf
      refine Or.inr ⟨[], sc52_5, by kernel_rfl, ?_⟩
      conv => whnf
      rw [hwl]
      intro A3 cap3 m3 hS3
      have hc3 : Cells m3 A3 (itemsV n.log.items) := .of_sealed hS3
      repeat (first | exact trivial | (refine ⟨by first | exact ⟨rfl, rfl, rfl⟩ | rfl | exact ⟨rfl, rfl⟩ | exact ⟨rfl, fun _ _ => rfl⟩ | exact fun _ _ h => h | (intro _ _ h; cases h; done) | exact ⟨Int.natCast_nonneg _, by show (l : Int) ≤ (n.log.items.length : Int); omega⟩, ?_⟩; conv => whnf))
      refine ⟨⟨n.log.items.drop l, if cap3 = (l : Int).toNat then A3 else A3.map (·.add ((l : Int).toNat * 6)), cap3 - (l : Int).toNat, m3⟩, ⟨hc3.slice hS3.le, by show (n.log.items.drop l).length ≤ 2 ^ 40; omega⟩, ?_⟩
      conv => whnf
      repeat (first | exact trivial | (refine ⟨by first | exact ⟨rfl, rfl, rfl⟩ | rfl | exact ⟨rfl, rfl⟩ | exact ⟨rfl, fun _ _ => rfl⟩ | exact fun _ _ h => h | (intro _ _ h; cases h; done) | exact ⟨rfl, hxl, rfl⟩, ?_⟩; conv => whnf))
      intro _ _
      conv => whnf
      refine Or.inr ⟨[3], sc52_6, by kernel_rfl, ?_⟩
      conv => whnf
      repeat (first | exact trivial | (refine ⟨by first | exact ⟨rfl, rfl, rfl⟩ | rfl | exact ⟨rfl, rfl⟩ | exact ⟨rfl, fun _ _ => rfl⟩ | exact fun _ _ h => h | (intro _ _ h; cases h; done), ?_⟩; conv => whnf))
      refine Or.inr ⟨[], sc52_7, by kernel_rfl, ?_⟩
      conv => whnf
      refine ⟨⟨(bookN n k (n.log.items.drop l)), .own, os, m3, k.frm, ansM k.last true, none, 0⟩, ⟨by show os.length < 1000; omega, Cells.nil _ _⟩, ?_⟩
      conv => whnf
      repeat (first | exact trivial | (refine ⟨by first | exact ⟨rfl, rfl, rfl⟩ | rfl | exact ⟨rfl, rfl⟩ | exact ⟨rfl, fun _ _ => rfl⟩ | exact fun _ _ h => h | (intro _ _ h; cases h; done) | rfl, ?_⟩; conv => whnf))
      rintro b rfl
      refine ⟨⟨(bookN n k (n.log.items.drop l)), ((bookN n k (n.log.items.drop l))).log.items, os ++ [⟨sayN n k.frm (ansM k.last true), none, 0⟩]⟩, ⟨by rw [hr], ⟨Nat.le_refl _, List.take_length⟩, by rw [hr]; exact (Since.refl os).snoc rfl, hsaid.snoc (Cells.nil _ _)⟩, ?_⟩
      conv => whnf
      repeat (first | exact trivial | exact fun _ _ h => h | (refine ⟨by first | exact ⟨rfl, rfl, rfl⟩ | rfl | exact ⟨rfl, rfl⟩ | exact ⟨rfl, fun _ _ => rfl⟩ | exact fun _ _ h => h | (intro _ _ h; cases h; done) | rfl, ?_⟩; conv => whnf))
      exact hS3.ext
    · rw [ifand] at hn
      have hk : ¬ ((termAtN n.log k.last).2 = true ∧ (termAtN n.log k.last).1 = k.lastTerm) := by simpa using hn
      have hrest : restL n k = [] := by unfold restL; rw [if_neg hk]
      have hr : installR n k = ⟨bookN n k [], some (ansM k.last true)⟩ := by unfold installR; rw [if_pos hyes, hrest]
      conv => whnf
      refine Or.inr ⟨[3], sc52_6, by kernel_rfl, ?_⟩
      conv => whnf
      repeat (first | exact trivial | (refine ⟨by first | exact ⟨rfl, rfl, rfl⟩ | rfl | exact ⟨rfl, rfl⟩ | exact ⟨rfl, fun _ _ => rfl⟩ | exact fun _ _ h => h | (intro _ _ h; cases h; done), ?_⟩; conv => whnf))
      refine Or.inr ⟨[], sc52_7, by kernel_rfl, ?_⟩
      conv => whnf
      refine ⟨⟨(bookN n k []), .own, os, m, k.frm, ansM k.last true, none, 0⟩, ⟨by show os.length < 1000; omega, Cells.nil _ _⟩, ?_⟩
      conv => whnf
      repeat (first | exact trivial | (refine ⟨by first | exact ⟨rfl, rfl, rfl⟩ | rfl | exact ⟨rfl, rfl⟩ | exact ⟨rfl, fun _ _ => rfl⟩ | exact fun _ _ h => h | (intro _ _ h; cases h; done) | rfl, ?_⟩; conv => whnf))
      rintro b rfl
      refine ⟨⟨(bookN n k []), ((bookN n k [])).log.items, os ++ [⟨sayN n k.frm (ansM k.last true), none, 0⟩]⟩, ⟨by rw [hr], ⟨Nat.le_refl _, List.take_length⟩, by rw [hr]; exact (Since.refl os).snoc rfl, hsaid.snoc (Cells.nil _ _)⟩, ?_⟩
      conv => whnf
      repeat (first | exact trivial | exact fun _ _ h => h | (refine ⟨by first | exact ⟨rfl, rfl, rfl⟩ | rfl | exact ⟨rfl, rfl⟩ | exact ⟨rfl, fun _ _ => rfl⟩ | exact fun _ _ h => h | (intro _ _ h; cases h; done) | rfl, ?_⟩; conv => whnf))
      skip
  · have hno : ¬ k.last > n.commit := of_decide_eq_false hno
    have hr : installR n k = ⟨n, some (ansM n.commit true)⟩ := by unfold installR; rw [if_neg hno]
    conv => whnf
    refine Or.inr ⟨[], sc52_7, by kernel_rfl, ?_⟩
    conv => whnf
    refine ⟨⟨n, .own, os, m, k.frm, ansM n.commit true, none, 0⟩, ⟨by show os.length < 1000; omega, Cells.nil _ _⟩, ?_⟩
    conv => whnf
    repeat (first | exact trivial | (refine ⟨by first | exact ⟨rfl, rfl, rfl⟩ | rfl | exact ⟨rfl, rfl⟩ | exact ⟨rfl, fun _ _ => rfl⟩ | exact fun _ _ h => h | (intro _ _ h; cases h; done) | rfl, ?_⟩; conv => whnf))
    rintro b rfl
    refine ⟨⟨n, (n).log.items, os ++ [⟨sayN n k.frm (ansM n.commit true), none, 0⟩]⟩, ⟨by rw [hr], ⟨Nat.le_refl _, List.take_length⟩, by rw [hr]; exact (Since.refl os).snoc rfl, hsaid.snoc (Cells.nil _ _)⟩, ?_⟩
    conv => whnf
    repeat (first | exact trivial | exact fun _ _ h => h | (refine ⟨by first | exact ⟨rfl, rfl, rfl⟩ | rfl | exact ⟨rfl, rfl⟩ | exact ⟨rfl, fun _ _ => rfl⟩ | exact fun _ _ h => h | (intro _ _ h; cases h; done) | rfl, ?_⟩; conv => whnf))
    skip
set_option maxRecDepth 100000 in
set_option maxHeartbeats 1600000 in
theorem refInstall_ok : SpecOk Try.prog 59 (hearSpec 85 installR) := by
  refine spec_of_exec (fn := Try.f59) (c := Try.f59.body.getD .skip) (d := 0) (lv := ([0, 1, 3, 4, 5, 6, 14, 32])) (DP := DPx T1 (CPs S10) ([0, 1, 3, 4, 5, 6, 14, 32])) T1_ok S10_ok (fun B => DPx_ok T1_ok ord S10_ok B) (hearSpec 85 installR) (by rfl) (by rfl) (by rfl) (fun _ => Nat.le_of_ble_eq_true (by kernel_rfl)) ?_
  rintro ⟨n, os, m, k, D, e⟩ ⟨hf0, ⟨hk1, hk2, hk3, hk4⟩, hil, ⟨hM, hcap⟩, hsaid, hos⟩
  obtain ⟨hs1, hs2, hm1, hm2, hb1, hb2, hl, hc1, hc2⟩ := hf0
  have hf0 : Fit n := ⟨hs1, hs2, hm1, hm2, hb1, hb2, hl, hc1, hc2⟩
  conv => whnf
  refine Or.inr ⟨[], sc59_1, by kernel_rfl, ?_⟩
  conv => whnf
  refine ⟨fun hyes => ?_, fun hno => ?_⟩
  conv => whnf
  · have hyes : k.last > n.commit := of_decide_eq_true hyes
    conv => whnf
    refine Or.inr ⟨[], sc59_2, by kernel_rfl, ?_⟩
    conv => whnf
    intro A2 cap2 m2 hS2
    refine ⟨⟨n.log, A2, cap2, k.last, m2⟩, ⟨.of_sealed hS2, by show n.log.items.length < 2 ^ 62; omega, ⟨by omega, by omega⟩, ⟨by omega, by omega⟩⟩, ?_⟩
    conv => whnf
    repeat (first | exact trivial | (refine ⟨by first | exact ⟨rfl, rfl, rfl⟩ | rfl | exact ⟨rfl, rfl⟩ | exact ⟨rfl, fun _ _ => rfl⟩ | exact fun _ _ h => h | (intro _ _ h; cases h; done), ?_⟩; conv => whnf))
    intro _ _
    refine ⟨fun hy => ?_, fun hn => ?_⟩
    conv => whnf
    · rw [ifand] at hy
      have hk : (termAtN n.log k.last).2 = true ∧ (termAtN n.log k.last).1 = k.lastTerm := by simpa using hy
      have hin := known_in hk.1
      obtain ⟨l, hl0⟩ : ∃ l : Nat, l = (k.last - n.log.base).toNat := ⟨_, rfl⟩
      have hwl : IntKind.i64.wrap (k.last - n.log.base) = (l : Int) := by rw [wrapi ⟨by omega, by omega⟩]; omega
      have hrest : restL n k = n.log.items.drop l := by unfold restL; rw [if_pos hk, ← hl0]
      have hr : installR n k = ⟨bookN n k (n.log.items.drop l), some (ansM k.last true)⟩ := by unfold installR; rw [if_pos hyes, hrest]
      have hxl : n.log.items.length - l = (n.log.items.drop l).length := List.length_drop.symm
      conv => whnf
      refine Or.inr ⟨[], sc59_5, by kernel_rfl, ?_⟩
      conv => whnf
      rw [hwl]
      intro A3 cap3 m3 hS3
      have hc3 : Cells m3 A3 (itemsV n.log.items) := .of_sealed hS3
      have hcd : Cells m3 (if cap3 = (l : Int).toNat then A3 else A3.map (·.add ((l : Int).toNat * 6))) (itemsV (n.log.items.drop l)) := hc3.slice hS3.le
      have hsrc := hcd.src
      rw [← hxl] at hsrc
      repeat (first | exact trivial | (refine ⟨by first | exact ⟨rfl, rfl, rfl⟩ | rfl | exact ⟨rfl, rfl⟩ | exact ⟨rfl, fun _ _ => rfl⟩ | exact fun _ _ h => h | (intro _ _ h; cases h; done) | exact ⟨Int.natCast_nonneg _, by show (l : Int) ≤ (n.log.items.length : Int); omega⟩, ?_⟩; conv => whnf))
      refine ⟨itemsV (n.log.items.drop l), hsrc, ?_⟩
      conv => whnf
      repeat (first | exact trivial | (refine ⟨by first | exact ⟨rfl, rfl, rfl⟩ | rfl | exact ⟨rfl, rfl⟩ | exact ⟨rfl, fun _ _ => rfl⟩ | exact fun _ _ h => h | (intro _ _ h; cases h; done) | exact ⟨rfl, rfl, by show (n.log.items.length - l) * 56 ≤ _; omega, by omega⟩, ?_⟩; conv => whnf))
      refine Or.inr ⟨[], sc59_11, by kernel_rfl, ?_⟩
      conv => whnf
      refine ⟨⟨(bookN n k (n.log.items.drop l)), .own, os, m3, k.frm, ansM k.last true, none, 0⟩, ⟨by show os.length < 1000; omega, Cells.nil _ _⟩, ?_⟩
      conv => whnf
      repeat (first | exact trivial | (refine ⟨by first | exact ⟨rfl, rfl, rfl⟩ | rfl | exact ⟨rfl, rfl⟩ | exact ⟨rfl, fun _ _ => rfl⟩ | exact fun _ _ h => h | (intro _ _ h; cases h; done) | exact hxl | exact ⟨hxl, rfl⟩, ?_⟩; conv => whnf))
      rintro b rfl
      refine ⟨⟨(bookN n k (n.log.items.drop l)), ((bookN n k (n.log.items.drop l))).log.items, os ++ [⟨sayN n k.frm (ansM k.last true), none, 0⟩]⟩, ⟨by rw [hr], ⟨Nat.le_refl _, List.take_length⟩, by rw [hr]; exact (Since.refl os).snoc rfl, hsaid.snoc (Cells.nil _ _)⟩, ?_⟩
      conv => whnf
      repeat (first | exact trivial | exact fun _ _ h => h | (refine ⟨by first | exact ⟨rfl, rfl, rfl⟩ | rfl | exact ⟨rfl, rfl⟩ | exact ⟨rfl, fun _ _ => rfl⟩ | exact fun _ _ h => h | (intro _ _ h; cases h; done) | rfl, ?_⟩; conv => whnf))
      exact hS3.ext
    · rw [ifand] at hn
      have hk : ¬ ((termAtN n.log k.last).2 = true ∧ (termAtN n.log k.last).1 = k.lastTerm) := by simpa using hn
      have hrest : restL n k = [] := by unfold restL; rw [if_neg hk]
      have hr : installR n k = ⟨bookN n k [], some (ansM k.last true)⟩ := by unfold installR; rw [if_pos hyes, hrest]
      conv => whnf
      refine Or.inr ⟨[], sc59_11, by kernel_rfl, ?_⟩
      conv => whnf
      refine ⟨⟨(bookN n k []), .own, os, m, k.frm, ansM k.last true, none, 0⟩, ⟨by show os.length < 1000; omega, Cells.nil _ _⟩, ?_⟩
      conv => whnf
      repeat (first | exact trivial | (refine ⟨by first | exact ⟨rfl, rfl, rfl⟩ | rfl | exact ⟨rfl, rfl⟩ | exact ⟨rfl, fun _ _ => rfl⟩ | exact fun _ _ h => h | (intro _ _ h; cases h; done) | rfl, ?_⟩; conv => whnf))
      rintro b rfl
      refine ⟨⟨(bookN n k []), ((bookN n k [])).log.items, os ++ [⟨sayN n k.frm (ansM k.last true), none, 0⟩]⟩, ⟨by rw [hr], ⟨Nat.le_refl _, List.take_length⟩, by rw [hr]; exact (Since.refl os).snoc rfl, hsaid.snoc (Cells.nil _ _)⟩, ?_⟩
      conv => whnf
      repeat (first | exact trivial | exact fun _ _ h => h | (refine ⟨by first | exact ⟨rfl, rfl, rfl⟩ | rfl | exact ⟨rfl, rfl⟩ | exact ⟨rfl, fun _ _ => rfl⟩ | exact fun _ _ h => h | (intro _ _ h; cases h; done) | rfl, ?_⟩; conv => whnf))
      skip
  · have hno : ¬ k.last > n.commit := of_decide_eq_false hno
    have hr : installR n k = ⟨n, some (ansM n.commit true)⟩ := by unfold installR; rw [if_neg hno]
    conv => whnf
    refine Or.inr ⟨[], sc59_11, by kernel_rfl, ?_⟩
    conv => whnf
    refine ⟨⟨n, .own, os, m, k.frm, ansM n.commit true, none, 0⟩, ⟨by show os.length < 1000; omega, Cells.nil _ _⟩, ?_⟩
    conv => whnf
    repeat (first | exact trivial | (refine ⟨by first | exact ⟨rfl, rfl, rfl⟩ | rfl | exact ⟨rfl, rfl⟩ | exact ⟨rfl, fun _ _ => rfl⟩ | exact fun _ _ h => h | (intro _ _ h; cases h; done) | rfl, ?_⟩; conv => whnf))
    rintro b rfl
    refine ⟨⟨n, (n).log.items, os ++ [⟨sayN n k.frm (ansM n.commit true), none, 0⟩]⟩, ⟨by rw [hr], ⟨Nat.le_refl _, List.take_length⟩, by rw [hr]; exact (Since.refl os).snoc rfl, hsaid.snoc (Cells.nil _ _)⟩, ?_⟩
    conv => whnf
    repeat (first | exact trivial | exact fun _ _ h => h | (refine ⟨by first | exact ⟨rfl, rfl, rfl⟩ | rfl | exact ⟨rfl, rfl⟩ | exact ⟨rfl, fun _ _ => rfl⟩ | exact fun _ _ h => h | (intro _ _ h; cases h; done) | rfl, ?_⟩; conv => whnf))
    skip
end Go.Proofs.Ytjpjiniclibgkaa.Sx

namespace Go.Proofs.Ytjpjiniclibgkaa.Sx
open Go

def newerB (n : Node) (k : Msg) : Bool := decide (k.lastTerm > (lastN n.log).2) || ((k.lastTerm == (lastN n.log).2) && decide (k.last ≥ (lastN n.log).1))
def askB (n : Node) (k : Msg) : Bool := ((k.term == n.log.term) && ((n.log.vote == -1) || (n.log.vote == k.frm))) && newerB n k
def askN (n : Node) (k : Msg) : Node := match askB n k with
  | true => { n with log := { n.log with vote := k.frm } }
  | false => n
def voteM (yes : Bool) : Msg := mkM 2 0 0 0 yes [] ByteArray.empty
def askR (n : Node) (k : Msg) : HeardR := ⟨askN n k, some (voteM (askB n k))⟩
def S11 : List (Nat × Spec) := (52, hearSpec 78 installR) :: (59, hearSpec 85 installR) :: S10
theorem S11_all : ∀ f s, findS S11 f = some s → SpecOk Try.prog f s := CP_cons (CP_cons S10_all refInstall_ok) install_ok
theorem S11_ok : CPOk Try.prog (CPs S11) := CPs_ok S11_all
set_option maxRecDepth 100000 in
set_option maxHeartbeats 1600000 in
theorem ask_ok : SpecOk Try.prog 47 (hearSpec 78 askR) := by
  refine spec_of_exec (fn := Try.f47) (c := Try.f47.body.getD .skip) (d := 0) (lv := ([0, 1, 3, 4, 5, 6, 63])) (DP := DPx T1 (CPs S11) ([0, 1, 3, 4, 5, 6, 63])) T1_ok S11_ok (fun B => DPx_ok T1_ok ord S11_ok B) (hearSpec 78 askR) (by rfl) (by rfl) (by rfl) (fun _ => Nat.le_of_ble_eq_true (by kernel_rfl)) ?_
  rintro ⟨n, os, m, k, D, e⟩ ⟨hf0, ⟨hk1, hk2, hk3, hk4⟩, hil, ⟨hM, hcap⟩, hsaid, hos⟩
  obtain ⟨hs1, hs2, hm1, hm2, hb1, hb2, hl, hc1, hc2⟩ := hf0
  have hf0 : Fit n := ⟨hs1, hs2, hm1, hm2, hb1, hb2, hl, hc1, hc2⟩
  conv => whnf
  intro A2 cap2 m2 hS2
  refine ⟨⟨n.log, A2, cap2, m2⟩, ⟨.of_sealed hS2, by show n.log.items.length < 2 ^ 62; omega⟩, ?_⟩
  conv => whnf
  repeat (first | exact trivial | (refine ⟨by first | exact ⟨rfl, rfl, rfl⟩ | rfl | exact ⟨rfl, rfl⟩ | exact ⟨rfl, fun _ _ => rfl⟩ | exact fun _ _ h => h | (intro _ _ h; cases h; done), ?_⟩; conv => whnf))
  intro _ _
  conv => whnf
  refine Or.inr ⟨[], sc47_2, by kernel_rfl, ?_⟩
  conv => whnf
  have hx : (if (if (k.term == n.log.term) = true then if (n.log.vote == -1) = true then true else n.log.vote == k.frm else false) = true then if decide (k.lastTerm > (lastN n.log).2) = true then true else if (k.lastTerm == (lastN n.log).2) = true then decide (k.last ≥ (lastN n.log).1) else false else false) = askB n k := by unfold askB newerB; simp only [ifand, ifor]
  rw [hx]
  generalize hb : askB n k = y
  refine ⟨fun hyes => ?_, fun hno => ?_⟩
  · subst hyes
    have hr : askR n k = ⟨{ n with log := { n.log with vote := k.frm } }, some (voteM true)⟩ := by unfold askR askN; rw [hb]
    conv => whnf
    refine ⟨⟨{ n with log := { n.log with vote := k.frm } }, .own, os, m, k.frm, voteM true, none, 0⟩, ⟨by show os.length < 1000; omega, Cells.nil _ _⟩, ?_⟩
    conv => whnf
    repeat (first | exact trivial | (refine ⟨by first | exact ⟨rfl, rfl, rfl⟩ | rfl | exact ⟨rfl, rfl⟩ | exact ⟨rfl, fun _ _ => rfl⟩ | exact fun _ _ h => h | (intro _ _ h; cases h; done), ?_⟩; conv => whnf))
    rintro b rfl
    refine ⟨⟨{ n with log := { n.log with vote := k.frm } }, n.log.items, os ++ [⟨sayN n k.frm (voteM true), none, 0⟩]⟩, ⟨by rw [hr], ⟨Nat.le_refl _, List.take_length⟩, by rw [hr]; exact (Since.refl os).snoc rfl, hsaid.snoc (Cells.nil _ _)⟩, ?_⟩
    conv => whnf
    repeat (first | exact trivial | exact fun _ _ h => h | (refine ⟨by first | exact ⟨rfl, rfl, rfl⟩ | rfl | exact ⟨rfl, rfl⟩ | exact ⟨rfl, fun _ _ => rfl⟩ | exact fun _ _ h => h | (intro _ _ h; cases h; done), ?_⟩; conv => whnf))
  · subst hno
    have hr : askR n k = ⟨n, some (voteM false)⟩ := by unfold askR askN; rw [hb]
    conv => whnf
    refine ⟨⟨n, .own, os, m, k.frm, voteM false, none, 0⟩, ⟨by show os.length < 1000; omega, Cells.nil _ _⟩, ?_⟩
    conv => whnf
    repeat (first | exact trivial | (refine ⟨by first | exact ⟨rfl, rfl, rfl⟩ | rfl | exact ⟨rfl, rfl⟩ | exact ⟨rfl, fun _ _ => rfl⟩ | exact fun _ _ h => h | (intro _ _ h; cases h; done), ?_⟩; conv => whnf))
    rintro b rfl
    refine ⟨⟨n, n.log.items, os ++ [⟨sayN n k.frm (voteM false), none, 0⟩]⟩, ⟨by rw [hr], ⟨Nat.le_refl _, List.take_length⟩, by rw [hr]; exact (Since.refl os).snoc rfl, hsaid.snoc (Cells.nil _ _)⟩, ?_⟩
    conv => whnf
    repeat (first | exact trivial | exact fun _ _ h => h | (refine ⟨by first | exact ⟨rfl, rfl, rfl⟩ | rfl | exact ⟨rfl, rfl⟩ | exact ⟨rfl, fun _ _ => rfl⟩ | exact fun _ _ h => h | (intro _ _ h; cases h; done), ?_⟩; conv => whnf))
end Go.Proofs.Ytjpjiniclibgkaa.Sx

namespace Go.Proofs.Ytjpjiniclibgkaa.Sx
open Go

def S12 : List (Nat × Spec) := (47, hearSpec 78 askR) :: S11
theorem S12_all : ∀ f s, findS S12 f = some s → SpecOk Try.prog f s := CP_cons S11_all ask_ok
theorem S12_ok : CPOk Try.prog (CPs S12) := CPs_ok S12_all
theorem andT {a b : Prop} [Decidable a] [Decidable b] (h : (if decide a = true then decide b else false) = true) : a ∧ b := by
  rw [ifand, Bool.and_eq_true, decide_eq_true_eq, decide_eq_true_eq] at h; exact h
theorem andF {a b : Prop} [Decidable a] [Decidable b] (h : (if decide a = true then decide b else false) = false) : ¬ (a ∧ b) := by
  rw [ifand, Bool.and_eq_false_iff, decide_eq_false_iff_not, decide_eq_false_iff_not] at h
  rintro ⟨h1, h2⟩
  rcases h with h | h
  · exact h h1
  · exact h h2
theorem subP {s i : Nat} (h : ((s - i : Nat) : Int) > 0) : i < s := by omega
theorem getIx {xs : List Item} {i : Nat} (h : i < xs.length) : ∃ x, xs[i]? = some x := ⟨_, List.getElem?_eq_getElem h⟩
theorem own_le {xs : List Item} {i : Nat} {x : Item} (h : xs[i]? = some x) (f k : Nat) (hf : f + k ≤ 6) : i * 6 + f + k ≤ (itemsV xs).length := by
  have := (List.getElem?_eq_some_iff.1 h).1
  rw [itemsV_len]; omega
theorem own_term {xs : List Item} {i : Nat} {x : Item} (h : xs[i]? = some x) : [Value.int .i64 (termOf xs i)] = ((itemsV xs).drop (i * 6 + 0)).take 1 := by
  rw [itemsV_at h 0 1 (by omega)]; unfold termOf; rw [h]; rfl
theorem mem_term {m : Mem} {A : Option Addr} {xs : List Item} {i : Nat} {x : Item} (hM : Cells m A (itemsV xs)) (h : xs[i]? = some x) : rdM m A (i * 6 + 0) 1 [Value.int .i64 (termOf xs i)] := hM.rd rfl rfl (by decide) (own_term h)
theorem own_item {xs : List Item} {i : Nat} {x : Item} (h : xs[i]? = some x) : dens η0 (itemC x) = ((itemsV xs).drop (i * 6 + 0)).take 6 := by
  rw [itemsV_at h 0 6 (by omega)]; rfl
theorem clash_drop {n : Node} {a : Int} {xs : List Item} {j : Nat} {x : Item} (h : xs[j]? = some x) : clashB n (a + (j : Int)) (xs.drop j) = ((decide (a + (j : Int) + 1 ≤ n.commit) && ((termAtN n.log (a + (j : Int) + 1)).1 != x.term)) || clashB n (a + ((j + 1 : Nat) : Int)) (xs.drop (j + 1))) := by
  rw [drop_cons h]
  have : a + ((j + 1 : Nat) : Int) = a + (j : Int) + 1 := by omega
  rw [this]; rfl
theorem lay_drop {n : Node} {a : Int} {xs : List Item} {j : Nat} {x : Item} (h : xs[j]? = some x) : layGo n a (xs.drop j) = if a < lastI (cutN n a x) then layGo (cutN n a x) (a + 1) (xs.drop (j + 1)) else if (cutN n a x).log.items.length ≥ 256 then ⟨cutN n a x, a⟩ else layGo (pushN (cutN n a x) x) (a + 1) (xs.drop (j + 1)) := by
  rw [drop_cons h]; rfl
structure LayT where
  i : Nat
  n : Node
  a : Int
theorem push_row {xs : List Item} {x : Item} {L : Nat} {R : List Value} (hL : L = xs.length) (hR : R = itemsV xs) : L + 1 = (xs ++ [x]).length ∧ R.take (L * 6) ++ itemV x = itemsV (xs ++ [x]) := by
  subst hL hR
  refine ⟨by rw [List.length_append]; rfl, ?_⟩
  rw [itemsV_take, List.take_length, itemsV_append]; simp [itemsV]
theorem known_of {l : Log} {i : Int} (h1 : l.base < i) (h2 : i - l.base ≤ l.items.length) : (termAtN l i).2 = true := by
  obtain ⟨x, hx⟩ := getIx (xs := l.items) (i := (i - l.base - 1).toNat) (by omega)
  rw [termAtN_in (by omega) h1 h2 hx]
theorem mem_item {m : Mem} {A : Option Addr} {xs : List Item} {i : Nat} {x : Item} (hM : Cells m A (itemsV xs)) (h : xs[i]? = some x) : rdM m A (i * 6 + 0) 6 (dens η0 (itemC x)) := hM.rd rfl rfl (by decide) (own_item h)
theorem Cells.someX {m : Mem} {A : Option Addr} {xs : List Item} {i : Nat} {x : Item} (hM : Cells m A (itemsV xs)) (h : xs[i]? = some x) : A.isSome = true := hM.some' (by have := (List.getElem?_eq_some_iff.1 h).1; omega)
theorem ext_trans {m m' m'' : Mem} (h : ∀ b o, m b = some o → m' b = some o) (h' : ∀ b o, m' b = some o → m'' b = some o) : ∀ b o, m b = some o → m'' b = some o := fun b o x => h' b o (h b o x)
structure CutG where
  t : Nat
  i : Nat
  A : Option Addr
  c : Nat
  m : Mem
  own : Bool
end Go.Proofs.Ytjpjiniclibgkaa.Sx

namespace Go.Proofs.Ytjpjiniclibgkaa.Sx
open Go

theorem chain_le : ∀ {xs : List Item} {w : Int} {a : Nat} {x : Item}, chainB w xs = true → xs[a]? = some x → w ≤ x.term ∧ x.term ≤ endT w xs
  | [], _, _, _, _, h => by cases h
  | y :: r, w, a, x, hc, h => by
    simp only [chainB, Bool.and_eq_true, Bool.not_eq_true', Bool.or_eq_false_iff, decide_eq_false_iff_not] at hc
    have hend : y.term ≤ endT y.term r := by
      have : ∀ (r : List Item) (w : Int), chainB w r = true → w ≤ endT w r := by
        intro r
        induction r with
        | nil => intro w _; exact Int.le_refl _
        | cons y r ih =>
          intro w h
          simp only [chainB, Bool.and_eq_true, Bool.not_eq_true', Bool.or_eq_false_iff, decide_eq_false_iff_not] at h
          have := ih y.term h.2
          simp only [endT]
          omega
      exact this r _ hc.2
    cases a with
    | zero => cases h; exact ⟨by omega, hend⟩
    | succ a =>
      have ih := chain_le (a := a) hc.2 h
      exact ⟨by omega, ih.2⟩
theorem chain_two : ∀ {xs : List Item} {w : Int} {a b : Nat} {x y : Item}, chainB w xs = true → xs[a]? = some x → xs[b]? = some y → a ≤ b → x.term ≤ y.term
  | [], _, _, _, _, _, _, h, _, _ => by cases h
  | z :: r, w, a, b, x, y, hc, hx, hy, hab => by
    simp only [chainB, Bool.and_eq_true] at hc
    cases a with
    | zero =>
      cases hx
      cases b with
      | zero => cases hy; exact Int.le_refl _
      | succ b => exact (chain_le (a := b) hc.2 hy).1
    | succ a =>
      cases b with
      | zero => omega
      | succ b => exact chain_two (a := a) (b := b) hc.2 hx hy (by omega)
/-- The terms of a log's entries don't fall, and aren't above the log's own. -/
def Rising (l : Log) : Prop := chainB l.baseTerm l.items = true ∧ endT l.baseTerm l.items ≤ l.term
theorem term_at {l : Log} {i : Int} {x : Item} (h1 : l.base < i) (hx : l.items[(i - l.base - 1).toNat]? = some x) : termAtN l i = (x.term, true) := by
  have := (List.getElem?_eq_some_iff.1 hx).1
  exact termAtN_in (by omega) h1 (by omega) hx
theorem mono_of {n : Node} (hf : Fit n) (h : Rising n.log) (hc : n.log.base ≤ n.commit) : Mono n := by
  intro i j hi hij hj he
  rw [last_fit hf] at hj
  obtain ⟨x, hx⟩ := getIx (xs := n.log.items) (i := (i - n.log.base - 1).toNat) (by omega)
  obtain ⟨y, hy⟩ := getIx (xs := n.log.items) (i := (j - n.log.base - 1).toNat) (by omega)
  rw [term_at (by omega) hx] at he
  rw [term_at (by omega) hy]
  have h1 := chain_two h.1 hx hy (by omega)
  have h2 := (chain_le h.1 hy).2
  have h3 := h.2
  show y.term = _
  have he : x.term = n.log.term := he
  omega
theorem rising_snoc {l : Log} {x : Item} (h : Rising l) (hx : x.term = l.term) (hv : validB x.e = true) : Rising { l with items := l.items ++ [x] } := by
  refine ⟨?_, ?_⟩
  · show chainB l.baseTerm (l.items ++ [x]) = true
    rw [chain_snoc, h.1, hv]
    have : ¬ x.term < endT l.baseTerm l.items := by have := h.2; omega
    simp [this]
  · show endT l.baseTerm (l.items ++ [x]) ≤ l.term
    rw [last_snoc]; omega
/-- What is known of a node that can be. -/
structure Fine (n : Node) : Prop where
  s1 : 1 ≤ n.size
  s2 : n.size ≤ 7
  m1 : 0 ≤ n.me
  m2 : n.me < n.size
  t1 : 0 ≤ n.log.term
  t2 : n.log.term ≤ 1099511627776
  v1 : -1 ≤ n.log.vote
  v2 : n.log.vote < n.size
  b1 : 0 ≤ n.log.base
  b2 : n.log.base ≤ 1099511627776
  bt : 0 ≤ n.log.baseTerm
  l : n.log.items.length ≤ 256
  ris : Rising n.log
  r1 : 0 ≤ n.role
  r2 : n.role ≤ 2
  d1 : -1 ≤ n.lead
  d2 : n.lead < n.size
  c1 : n.log.base ≤ n.commit
  c2 : n.commit ≤ lastI n
  w1 : 0 ≤ n.votes
  w2 : n.votes < 2 ^ n.size.toNat
  rg : Range n
theorem fine_iff {n : Node} : goodB n = true ↔ Fine n := by
  constructor
  · intro h
    unfold goodB at h
    simp only [Bool.and_eq_true, Bool.not_eq_true', Bool.or_eq_false_iff] at h
    obtain ⟨⟨h1, h2⟩, h3, h4⟩ := h
    obtain ⟨s1, s2, m1, m2⟩ := size_of h1
    have hg : goodLogB n.log n.size = true := by simpa using h2
    obtain ⟨l1, l2, l3, l4⟩ := last_of hg
    have hli : lastI n = n.log.base + n.log.items.length := rfl
    rw [l2, ← hli] at h3 h4
    unfold goodLogB badB at hg
    simp only [Bool.and_eq_true, Bool.not_eq_true', Bool.or_eq_false_iff, decide_eq_false_iff_not, decide_eq_true_eq] at hg
    obtain ⟨⟨⟨⟨⟨⟨⟨⟨⟨g1, g2⟩, g3⟩, g4⟩, g5⟩, g6⟩, g7⟩, g8⟩, g9⟩, g10⟩ := hg
    unfold bad2 at h3
    simp only [Bool.or_eq_false_iff, decide_eq_false_iff_not] at h3
    obtain ⟨⟨⟨⟨⟨⟨⟨e1, e2⟩, e3⟩, e4⟩, e5⟩, e6⟩, e7⟩, e8⟩ := h3
    have hr : ∀ i : Nat, (i : Int) < n.size → rowBad n (lastI n) i = false := fun i hi => by
      have := List.all_eq_true.1 h4 i (List.mem_range.2 (by omega))
      simpa using this
    have hrr : ∀ i : Nat, (i : Int) < n.size → (0 ≤ n.next i ∧ n.next i ≤ lastI n + 1) ∧ (0 ≤ n.mat i ∧ n.mat i ≤ lastI n) := fun i hi => by
      have := hr i hi
      unfold rowBad at this
      simp only [Bool.or_eq_false_iff, decide_eq_false_iff_not] at this
      omega
    exact ⟨s1, s2, m1, m2, by omega, by omega, by omega, by omega, by omega, by omega, by omega, by omega, ⟨g9, g10⟩, by omega, by omega, by omega, by omega, by omega, by omega, by omega, by omega, ⟨fun i hi => (hrr i hi).1, fun i hi => (hrr i hi).2⟩⟩
  · intro h
    have h1 : bad1 n = false := by
      unfold bad1
      simp only [Bool.or_eq_false_iff, decide_eq_false_iff_not]
      have := h.s1; have := h.s2; have := h.m1; have := h.m2
      omega
    have hg : goodLogB n.log n.size = true := by
      unfold goodLogB badB
      simp only [Bool.and_eq_true, Bool.not_eq_true', Bool.or_eq_false_iff, decide_eq_false_iff_not, decide_eq_true_eq]
      have := h.t1; have := h.t2; have := h.v1; have := h.v2; have := h.b1; have := h.b2; have := h.bt; have := h.l
      exact ⟨⟨⟨⟨⟨⟨⟨⟨⟨by omega, by omega⟩, by omega⟩, by omega⟩, by omega⟩, by omega⟩, by omega⟩, by omega⟩, h.ris.1⟩, h.ris.2⟩
    obtain ⟨l1, l2, l3, l4⟩ := last_of hg
    have hli : lastI n = n.log.base + n.log.items.length := rfl
    unfold goodB
    rw [h1, hg, l2, ← hli]
    have h2 : bad2 n (lastI n) = false := by
      unfold bad2
      simp only [Bool.or_eq_false_iff, decide_eq_false_iff_not]
      have := h.r1; have := h.r2; have := h.d1; have := h.d2; have := h.c1; have := h.c2; have := h.w1; have := h.w2
      exact ⟨⟨⟨⟨⟨⟨⟨by omega, by omega⟩, by omega⟩, by omega⟩, by omega⟩, by omega⟩, by omega⟩, by omega⟩
    rw [h2]
    have h3 : ((List.range n.size.toNat).all fun i => !(rowBad n (lastI n) i)) = true := by
      rw [List.all_eq_true]
      intro i hi
      have hi := List.mem_range.1 hi
      obtain ⟨a1, a2⟩ := h.rg.nx i (by omega)
      obtain ⟨a3, a4⟩ := h.rg.mt i (by omega)
      have : rowBad n (lastI n) i = false := by
        unfold rowBad
        simp only [Bool.or_eq_false_iff, decide_eq_false_iff_not]
        omega
      rw [this]; rfl
    rw [h3]; rfl
theorem Fine.fit {n : Node} (h : Fine n) : Fit n := by
  have := h.b2; have := h.l; have := h.c1; have := h.c2; have := h.b1
  have hli : lastI n = n.log.base + n.log.items.length := rfl
  exact ⟨h.s1, h.s2, h.m1, h.m2, h.b1, by omega, by omega, by omega, by omega⟩
/-- What is known of a message that can be one to a node. -/
structure Heard (n : Node) (k : Msg) : Prop where
  to : k.to = n.me
  f1 : 0 ≤ k.frm
  f2 : k.frm < n.size
  f3 : k.frm ≠ n.me
  k1 : 1 ≤ k.kind
  k2 : k.kind ≤ 5
  t1 : 0 ≤ k.term
  t2 : k.term ≤ 1099511627776
  a1 : 0 ≤ k.last
  a2 : k.last ≤ 1099511627776
  b1 : 0 ≤ k.lastTerm
  b2 : k.lastTerm ≤ k.term
  c1 : 0 ≤ k.commit
  c2 : k.commit ≤ 1099511627776
  l : k.items.length ≤ 16
  up : chainB k.lastTerm k.items = true ∧ endT k.lastTerm k.items ≤ k.term
theorem heard_iff {n : Node} {k : Msg} : soundB n k = true ↔ Heard n k := by
  unfold soundB badM
  rw [Bool.and_eq_true]
  simp only [Bool.not_eq_true', Bool.or_eq_false_iff, decide_eq_false_iff_not, bne_eq_false_iff_eq, beq_eq_false_iff_ne, ne_eq]
  constructor
  · rintro ⟨⟨⟨⟨⟨⟨⟨⟨⟨⟨⟨⟨⟨⟨⟨h1, h2⟩, h3⟩, h4⟩, h5⟩, h6⟩, h7⟩, h8⟩, h9⟩, h10⟩, h11⟩, h12⟩, h13⟩, h14⟩, h15⟩, hu⟩
    rw [up_chain _ _ _ (by omega)] at hu
    exact ⟨h1, by omega, by omega, h4, by omega, by omega, by omega, by omega, by omega, by omega, by omega, by omega, by omega, by omega, by omega, by simpa using hu⟩
  · intro h
    have := h.f1; have := h.f2; have := h.k1; have := h.k2; have := h.t1; have := h.t2; have := h.a1; have := h.a2; have := h.b1; have := h.b2; have := h.c1; have := h.c2; have := h.l
    refine ⟨⟨⟨⟨⟨⟨⟨⟨⟨⟨⟨⟨⟨⟨⟨h.to, by omega⟩, by omega⟩, h.f3⟩, by omega⟩, by omega⟩, by omega⟩, by omega⟩, by omega⟩, by omega⟩, by omega⟩, by omega⟩, by omega⟩, by omega⟩, by omega⟩, ?_⟩
    rw [up_chain _ _ _ (by omega)]
    simpa using h.up
end Go.Proofs.Ytjpjiniclibgkaa.Sx
