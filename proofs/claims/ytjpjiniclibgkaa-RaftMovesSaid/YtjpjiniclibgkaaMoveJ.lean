/- The world of nodes, as it lies in memory; what is sent. Then: The world of nodes: a move, walked. The world of nodes: what is seen committed, walked. The world of nodes: what stays true of it from move to move. -/
import Derived.Test.YtjpjiniclibgkaaSafeL
import Derived.Test.YtjpjiniclibgkaaSafeH
import Derived.Test.YtjpjiniclibgkaaSafeB
namespace Go.Proofs.Ytjpjiniclibgkaa.Sx
open Go

structure Wld where
  ns : List NP
  us : List OMsg
  ts : List Int
  ls : List Int
  su : List Item
  si : List Int
  ct : Int
def intsV (xs : List Int) : List Value := xs.map fun n => .int .i64 n
theorem intsV_len (xs : List Int) : (intsV xs).length = xs.length := by simp [intsV]
def worldC (a b c d e f : Nat) (y : Wld) : List SV := [.rw a y.ns.length, .rw b y.us.length, .rw c y.ts.length, .rw d y.ls.length, .rw e y.su.length, .rw f y.si.length, .i .i64 y.ct]
def worldH (a b c d e f : Nat) (y : Wld) : Heap := [(0, .st 68 (worldC a b c d e f y)), (a, .row 27 26 y.ns.length (npsV y.ns)), (b, .row 29 10 y.us.length (saidV y.us)), (c, .row 3 1 y.ts.length (intsV y.ts)), (d, .row 3 1 y.ls.length (intsV y.ls)), (e, .row 44 6 y.su.length (itemsV y.su)), (f, .row 3 1 y.si.length (intsV y.si))]
theorem said_le {os : List OMsg} {i : Nat} {o : OMsg} (h : os[i]? = some o) : i * 10 + 10 ≤ (saidV os).length := by
  have := (List.getElem?_eq_some_iff.1 h).1
  rw [saidV_len]; omega
theorem Cells.srcM {m : Mem} {A : Option Addr} {xs : List OMsg} {n : Nat} (h : Cells m A (saidV xs)) (hn : n = xs.length) : (saidV xs).length = n * 10 ∧ (∀ u ∈ saidV xs, u.oneCell' = true) ∧ (0 < n → rdM m A 0 (n * 10) (saidV xs)) := by
  subst hn
  refine ⟨saidV_len xs, said_one xs, fun hp => ?_⟩
  have := h.all (by rw [saidV_len]; omega)
  rwa [saidV_len] at this
theorem said_take (os : List OMsg) : ∀ k, (saidV os).take (k * 10) = saidV (os.take k) := by
  intro k
  by_cases hk : k ≤ os.length
  · have h1 : saidV os = saidV (os.take k) ++ saidV (os.drop k) := by rw [← saidV_append, List.take_append_drop]
    rw [h1, List.take_left' (by rw [saidV_len, List.length_take]; omega)]
  · rw [List.take_of_length_le (by rw [saidV_len]; omega), List.take_of_length_le (by omega)]
theorem Cells.takeM {m : Mem} {A : Option Addr} {xs : List OMsg} (h : Cells m A (saidV xs)) (k : Nat) : Cells m A (saidV (xs.take k)) := by
  rw [← said_take]; exact h.take _
theorem Cells.sliceM {m : Mem} {A : Option Addr} {xs : List OMsg} (h : Cells m A (saidV xs)) {c l : Nat} (hc : xs.length ≤ c) : Cells m (if c = l then A else A.map (·.add (l * 10))) (saidV (xs.drop l)) := by
  by_cases hl : c = l
  · rw [if_pos hl, List.drop_eq_nil_of_le (by omega)]
    exact Cells.nil _ _
  · rw [if_neg hl, ← said_drop]
    exact h.drop _
theorem nps_set {ys : List NP} {i : Nat} {y np : NP} (h : ys[i]? = some y) : (npsV ys).take (i * 26) ++ (npV np ++ (npsV ys).drop (i * 26 + 26)) = npsV (ys.set i np) := by
  have hi := (List.getElem?_eq_some_iff.1 h).1
  have happ : ∀ a b : List NP, npsV (a ++ b) = npsV a ++ npsV b := fun a b => by simp [npsV]
  have h1 : npsV ys = npsV (ys.take i) ++ npsV (ys.drop i) := by rw [← happ, List.take_append_drop]
  have h2 : (npsV ys).take (i * 26) = npsV (ys.take i) := by rw [h1, List.take_left' (by rw [npsV_len, List.length_take]; omega)]
  have h3 : (npsV ys).drop (i * 26 + 26) = npsV (ys.drop (i + 1)) := by rw [← npsV_drop, Nat.add_mul, Nat.one_mul]
  rw [h2, h3, List.set_eq_take_append_cons_drop, if_pos hi, happ]
  rfl
/-! ### send -/
def sendI (us os : List OMsg) (i : Nat) : List OMsg := us ++ os.take (min i (256 - us.length))
theorem sendI_go {us os : List OMsg} {i : Nat} {o : OMsg} (ho : os[i]? = some o) (h : (sendI us os i).length < 256) : sendI us os i ++ [o] = sendI us os (i + 1) := by
  have hi := (List.getElem?_eq_some_iff.1 ho).1
  unfold sendI at h ⊢
  rw [List.length_append, List.length_take] at h
  have h1 : min i (256 - us.length) = i := by omega
  have h2 : min (i + 1) (256 - us.length) = i + 1 := by omega
  rw [h1, h2, List.append_assoc, List.take_add_one, ho]; rfl
theorem sendI_stop {us os : List OMsg} {i : Nat} (hi : i < os.length) (h : ¬ (sendI us os i).length < 256) : sendI us os i = sendI us os (i + 1) := by
  unfold sendI at h ⊢
  rw [List.length_append, List.length_take] at h
  have h1 : min i (256 - us.length) = 256 - us.length := by omega
  have h2 : min (i + 1) (256 - us.length) = 256 - us.length := by omega
  rw [h1, h2]
theorem sendI_len {us os : List OMsg} {i : Nat} (h : us.length ≤ 256) : (sendI us os i).length ≤ 256 := by
  unfold sendI; rw [List.length_append, List.length_take]; omega
structure SendG where
  y : Wld
  os : List OMsg
  O : Option Addr
  oc : Nat
  m : Mem
def sendSpec : Spec where
  A := SendG
  R := fun ⟨y, os, O, _, m⟩ => Cells m O (saidV os) ∧ os.length < 2 ^ 62 ∧ y.us.length ≤ 256
  J := fun ⟨_, _, _, _, m⟩ => m
  args := fun ⟨_, os, O, oc, _⟩ => [.p 0 0, .sl O os.length oc]
  h := fun ⟨y, _, _, _, _⟩ => worldH 1 2 3 4 5 6 y
  nx := 7
  Bb := Wld
  C := fun ⟨y, os, _, _, _⟩ b => b = { y with us := sendI y.us os os.length }
  out := fun _ _ => .ret (.t [])
  h2 := fun _ b => worldH 7 8 9 10 11 12 b
  nx2 := 13
set_option maxRecDepth 100000 in
set_option maxHeartbeats 1600000 in
theorem send_ok : SpecOk Try.prog 70 sendSpec := by
  refine spec_of_exec (fn := Try.f70) (c := Try.f70.body.getD .skip) (d := 1) (lv := ([0, 1, 5, 6, 7, 8, 9, 17])) (DP := DPy T1 (CPs S28) ([0, 1, 5, 6, 7, 8, 9, 17])) T1_ok S28_ok (fun B => DPy_ok T1_ok ord S28_ok B) sendSpec (by rfl) (by rfl) (by rfl) (fun _ => Nat.le_of_ble_eq_true (by kernel_rfl)) ?_
  rintro ⟨⟨ns, us, ts, ls, su, si, ct⟩, os, O, oc, m⟩ ⟨hO, hol, hul⟩
  have hul : us.length ≤ 256 := hul
  have hol : os.length < 2 ^ 62 := hol
  conv => whnf
  obtain ⟨s, hs⟩ : ∃ s, s = os.length := ⟨_, rfl⟩
  refine ⟨Nat, fun i => i ≤ s, fun i => ⟨29, [⟨0, [], .p 0 0⟩, ⟨6, [], .sl O s oc⟩, ⟨7, [], .i .i64 s⟩, ⟨8, [], .i .i64 i⟩], [], worldH 1 7 3 4 5 6 ⟨ns, sendI us os i, ts, ls, su, si, ct⟩, 8⟩, fun _ => m, fun i => s - i, ⟨0, rfl, Nat.zero_le _, ?_⟩, ?_⟩
  conv => whnf
  · conv => whnf
    have h0 : sendI us os 0 = us := by unfold sendI; rw [Nat.zero_min]; simp
    repeat (first | exact trivial | (refine ⟨by first | exact ⟨rfl, rfl, rfl⟩ | rfl | exact ⟨rfl, rfl⟩ | exact ⟨rfl, fun _ _ => rfl⟩ | exact fun _ _ h => h | (intro _ _ h; cases h; done) | exact ⟨rfl, hs.symm, rfl⟩ | exact congrArg Int.ofNat hs.symm | (rw [h0]; exact ⟨rfl, rfl⟩) | (rw [h0]; done), ?_⟩; conv => whnf))
  · intro i hi
    have hul2 := sendI_len (us := us) (os := os) (i := i) hul
    refine ⟨fun hlt => ?_, fun hge => ?_⟩
    conv => whnf
    · have hlt : i < s := by have h2 : (i : Int) < (s : Int) := of_decide_eq_true hlt; omega
      have hE := getIm (xs := os) (Nat.lt_of_lt_of_eq hlt hs)
      refine Exists.elim hE fun o ho => ?_
      refine ⟨⟨Int.natCast_nonneg _, by show (i : Int) < (s : Int); omega, hO.someM ho⟩, ?_⟩
      conv => whnf
      refine ⟨.g (msgC o.k (.sl o.A o.k.items.length o.c)), ⟨rfl, rfl, mem_msg hO ho⟩, ?_⟩
      conv => whnf
      refine ⟨fun hl => ?_, fun hl => ?_⟩
      conv => whnf
      · have hl : (sendI us os i).length < 256 := by have h2 : ((sendI us os i).length : Int) < 256 := of_decide_eq_true hl; omega
        conv => whnf
        refine Or.inl (Or.inr ⟨[0], sc70_4, by kernel_rfl, ?_⟩)
        conv => whnf
        have hgo := sendI_go (us := us) ho hl
        have hlen : (sendI us os i).length + 1 = (sendI us os (i + 1)).length := by rw [← hgo, List.length_append]; rfl
        have hrow : (saidV (sendI us os i)).take ((sendI us os i).length * 10) ++ (dens η0 (msgC o.k (.sl o.A o.k.items.length o.c))).take (1 * 10) = saidV (sendI us os (i + 1)) := by
          rw [← hgo, saidV_append, List.take_of_length_le (by rw [saidV_len]; omega)]
          rfl
        repeat (first | exact trivial | (refine ⟨by first | exact ⟨rfl, rfl, rfl⟩ | rfl | exact ⟨rfl, rfl⟩ | exact ⟨rfl, fun _ _ => rfl⟩ | exact fun _ _ h => h | (intro _ _ h; cases h; done), ?_⟩; conv => whnf))
        refine ⟨Nat.le_refl 1, ?_⟩
        conv => whnf
        repeat (first | exact trivial | (refine ⟨by first | exact ⟨rfl, rfl, rfl⟩ | rfl | exact ⟨rfl, rfl⟩ | exact ⟨rfl, fun _ _ => rfl⟩ | exact fun _ _ h => h | (intro _ _ h; cases h; done), ?_⟩; conv => whnf))
        refine ⟨⟨Nat.le_refl _, by show ((sendI us os i).length + 1) * 104 ≤ _; omega, by show (sendI us os i).length + 1 ≤ _; omega⟩, ?_⟩
        conv => whnf
        refine ⟨i + 1, rfl, ⟨hlt, by show s - (i + 1) < s - i; omega⟩, ?_⟩
        conv => whnf
        repeat (first | exact trivial | (refine ⟨by first | exact ⟨rfl, rfl, rfl⟩ | rfl | exact ⟨rfl, rfl⟩ | exact ⟨rfl, fun _ _ => rfl⟩ | exact fun _ _ h => h | (intro _ _ h; cases h; done) | exact wrapi_succ (by omega) | exact hlen | exact ⟨hlen, hrow⟩, ?_⟩; conv => whnf))
      · have hl : ¬ (sendI us os i).length < 256 := by have h2 : ¬ ((sendI us os i).length : Int) < 256 := of_decide_eq_false hl; omega
        have hst := sendI_stop (us := us) (Nat.lt_of_lt_of_eq hlt hs) hl
        conv => whnf
        refine ⟨i + 1, rfl, ⟨hlt, by show s - (i + 1) < s - i; omega⟩, ?_⟩
        conv => whnf
        repeat (first | exact trivial | (refine ⟨by first | exact ⟨rfl, rfl, rfl⟩ | rfl | exact ⟨rfl, rfl⟩ | exact ⟨rfl, fun _ _ => rfl⟩ | exact fun _ _ h => h | (intro _ _ h; cases h; done) | exact wrapi_succ (by omega) | (rw [hst]; exact ⟨rfl, rfl⟩) | (rw [hst]; done), ?_⟩; conv => whnf))
    · have hge : i = s := by have h2 : ¬ (i : Int) < (s : Int) := of_decide_eq_false hge; omega
      subst hge
      refine ⟨⟨ns, sendI us os i, ts, ls, su, si, ct⟩, by rw [hs]; rfl, ?_⟩
      conv => whnf
      repeat (first | exact trivial | exact fun _ _ h => h | (refine ⟨by first | exact ⟨rfl, rfl, rfl⟩ | rfl | exact ⟨rfl, rfl⟩ | exact ⟨rfl, fun _ _ => rfl⟩ | exact fun _ _ h => h | (intro _ _ h; cases h; done), ?_⟩; conv => whnf))
end Go.Proofs.Ytjpjiniclibgkaa.Sx

namespace Go.Proofs.Ytjpjiniclibgkaa.Sx
open Go

/-! ### what a move does -/
structure WA where
  ns : List Node
  us : List Msg
  ts : List Int
  ls : List Int
  su : List Item
  si : List Int
  ct : Int
structure MoveV where
  kind : Int
  who : Int
  i : Int
def Wld.abs (y : Wld) : WA := ⟨y.ns.map (·.n), y.us.map (·.k), y.ts, y.ls, y.su, y.si, y.ct⟩
def turnW (w : WA) (v : Nat) (r : StepR) : WA := if r.e = 0 then { w with ns := w.ns.set v r.n, us := w.us ++ r.ks.take (256 - w.us.length) } else w
def lessW (w : WA) (x : MoveV) : WA := if x.kind = 1 then w else { w with us := w.us.eraseIdx x.i.toNat }
def hearW (w : WA) (x : MoveV) (k : Msg) : WA :=
  if x.kind = 2 then lessW w x else match w.ns[k.to.toNat]? with
    | some n => turnW (lessW w x) k.to.toNat (stepR n k)
    | none => lessW w x
def proS (n : Node) (e : Entry) : StepR := ⟨(proposeR n e).n, (proposeR n e).ks, (proposeR n e).e⟩
def seqE (s : Int) : Entry := ⟨2, 0, 0, s, ByteArray.empty⟩
def ownW (w : WA) (x : MoveV) (n : Node) : WA :=
  if x.kind = 3 then turnW w x.who.toNat (timeoutR n)
  else if x.kind = 4 then turnW w x.who.toNat (beatR n)
  else if x.kind = 5 then turnW { w with ct := IntKind.i64.wrap (w.ct + 1) } x.who.toNat (proS n (seqE (IntKind.i64.wrap (w.ct + 1))))
  else if x.kind = 6 then turnW w x.who.toNat (newR x.who (w.ns.length : Int) n.log)
  else if x.kind = 7 then turnW w x.who.toNat (compactR n x.i bB)
  else turnW w x.who.toNat ⟨n, [], 0⟩
def moveW (w : WA) (x : MoveV) : WA :=
  if x.kind ≤ 2 then (if x.i < 0 then w else match w.us[x.i.toNat]? with
    | some k => hearW w x k
    | none => w)
  else if x.who < 0 then w else match w.ns[x.who.toNat]? with
    | some n => ownW w x n
    | none => w
/-- Where the memory holds a world's parts. -/
structure InM (m : Mem) (y : Wld) : Prop where
  n : ∀ z ∈ y.ns, Cells m z.A (itemsV z.n.log.items) ∧ z.n.log.items.length ≤ z.c
  u : ∀ o ∈ y.us, Cells m o.A (itemsV o.k.items) ∧ o.k.items.length ≤ o.c ∧ o.k.items.length ≤ 16
structure Mild (y : Wld) : Prop where
  n : ∀ z ∈ y.ns, z.n.log.items.length < 2 ^ 62
  t : ∀ o ∈ y.us, 0 ≤ o.k.to ∧ o.k.to < y.ns.length
  u : y.us.length ≤ 256
  s : y.ns.length ≤ 7
structure MoveG where
  y : Wld
  x : MoveV
  m : Mem
def moveSpec : Spec where
  A := MoveG
  R := fun ⟨y, _, m⟩ => InM m y ∧ Mild y
  J := fun ⟨_, _, m⟩ => m
  args := fun ⟨_, x, _⟩ => [.p 0 0, .g [.i .i64 x.kind, .i .i64 x.who, .i .i64 x.i]]
  h := fun ⟨y, _, _⟩ => worldH 1 2 3 4 5 6 y
  nx := 7
  Bb := Wld × Mem
  C := fun ⟨y, x, m⟩ ⟨y', m'⟩ => y'.abs = moveW y.abs x ∧ InM m' y' ∧ ∀ b o, m b = some o → m' b = some o
  out := fun _ _ => .ret (.t [])
  h2 := fun _ ⟨y', _⟩ => worldH 7 8 9 10 11 12 y'
  nx2 := 13
  J2 := fun _ ⟨_, m'⟩ => m'
  ext := true
def tsc41_5 : List (Nat × Bool) := [(0, false), (1, true), (2, false), (3, false), (4, false), (5, true), (6, false), (7, true), (8, true), (9, true), (10, false), (11, false), (12, false), (13, true), (14, false), (15, true), (16, true), (17, true), (18, false), (19, false), (20, false), (21, false)]
def tr41_5 : Tr := (Tr.ofL [0, 2, 3, 4, 5, 6, 7, 8, 10, 11, 12, 13, 14, 15, 16, 17, 1, 9, 18, 19, 20, 21] .done)
def tsc41_7 : List (Nat × Bool) := [(0, false), (1, false), (2, false), (3, true), (4, false), (5, true), (6, true), (7, true), (8, true), (9, true), (10, false), (11, true), (12, true), (13, true), (14, true), (15, true), (16, false), (17, false)]
def tr41_7 : Tr := (Tr.ofL [0, 1, 2, 3, 4, 5, 6, 7, 8] (.two 9 14 (Tr.ofL [10, 11, 12, 13, 14, 15, 16, 17] .done) (Tr.ofL [9, 10, 11, 12, 13, 15, 16, 17] .done)))

def S29 : List (Nat × Spec) := (70, sendSpec) :: (21, entrySpec) :: S27
theorem S29_all : ∀ f s, findS S29 f = some s → SpecOk Try.prog f s := CP_cons (CP_cons S27_all entry_ok) send_ok
theorem S29_ok : CPOk Try.prog (CPs S29) := CPs_ok S29_all
theorem InM.ext {m m' : Mem} {y : Wld} (h : InM m y) (hx : ∀ b o, m b = some o → m' b = some o) : InM m' y := ⟨fun z hz => ⟨(h.n z hz).1.ext hx, (h.n z hz).2⟩, fun o ho => ⟨(h.u o ho).1.ext hx, (h.u o ho).2⟩⟩
def lessY (y : Wld) (x : MoveV) : Wld := if x.kind = 1 then y else { y with us := y.us.eraseIdx x.i.toNat }
theorem map_erase {α β : Type} (f : α → β) (l : List α) (i : Nat) : (l.eraseIdx i).map f = (l.map f).eraseIdx i := by
  rw [List.eraseIdx_eq_take_drop_succ, List.eraseIdx_eq_take_drop_succ, List.map_append, List.map_take, List.map_drop]
theorem less_abs (y : Wld) (x : MoveV) : (lessY y x).abs = lessW y.abs x := by
  unfold lessY lessW
  split
  · rfl
  · show Wld.abs _ = _
    unfold Wld.abs
    simp only [map_erase]
theorem InM.less {m : Mem} {y : Wld} (h : InM m y) (x : MoveV) : InM m (lessY y x) := by
  unfold lessY
  split
  · exact h
  · exact ⟨h.n, fun o ho => h.u o (List.mem_of_mem_eraseIdx ho)⟩
def turnY (y : Wld) (v : Nat) (np : NP) (os : List OMsg) : Wld := { y with ns := y.ns.set v np, us := sendI y.us os os.length }
theorem send_map (us os : List OMsg) : (sendI us os os.length).map (·.k) = us.map (·.k) ++ (os.map (·.k)).take (256 - (us.map (·.k)).length) := by
  unfold sendI
  rw [List.map_append, List.map_take, List.length_map]
  congr 1
  have h1 : os.length = (os.map fun o : OMsg => o.k).length := by rw [List.length_map]
  rw [h1, Nat.min_comm, ← List.take_take, List.take_length]
theorem turn_abs {y : Wld} {v : Nat} {r : StepR} {np : NP} {os : List OMsg} (hn : np.n = r.n) (hk : os.map (·.k) = r.ks) (he : r.e = 0) : (turnY y v np os).abs = turnW y.abs v r := by
  unfold turnW
  rw [if_pos he]
  unfold turnY Wld.abs
  simp only [send_map, hk, ← hn, List.map_set]
theorem turn_err {w : WA} {v : Nat} {r : StepR} (he : r.e ≠ 0) : turnW w v r = w := if_neg he
theorem InM.turn {m : Mem} {y : Wld} (h : InM m y) {v : Nat} {np : NP} {os : List OMsg} (h1 : Cells m np.A (itemsV np.n.log.items) ∧ np.n.log.items.length ≤ np.c) (h2 : ∀ o ∈ os, Cells m o.A (itemsV o.k.items) ∧ o.k.items.length ≤ o.c ∧ o.k.items.length ≤ 16) : InM m (turnY y v np os) := by
  refine ⟨fun z hz => ?_, fun o ho => ?_⟩
  · rcases List.mem_or_eq_of_mem_set hz with hz | rfl
    · exact h.n z hz
    · exact h1
  · rcases List.mem_append.1 ho with ho | ho
    · exact h.u o ho
    · exact h2 o (List.mem_of_mem_take ho)
theorem said_short {m : Mem} {os : List OMsg} {ks : List Msg} (hs : Said m os) (hk : os.map (·.k) = ks) (h : Short ks) : ∀ o ∈ os, Cells m o.A (itemsV o.k.items) ∧ o.k.items.length ≤ o.c ∧ o.k.items.length ≤ 16 := fun o ho =>
  ⟨(hs o ho).1, (hs o ho).2.1, h.i o.k (hk ▸ List.mem_map_of_mem (f := (·.k)) ho)⟩
theorem move_hear {y : Wld} {x : MoveV} {o : OMsg} (hk : x.kind ≤ 2) (h0 : 0 ≤ x.i) (ho : y.us[x.i.toNat]? = some o) : moveW y.abs x = hearW y.abs x o.k := by
  have h1 : (y.us.map (·.k))[x.i.toNat]? = some o.k := by rw [List.getElem?_map, ho]; rfl
  unfold moveW
  rw [if_pos hk, if_neg (by omega)]
  show (match (y.us.map (·.k))[x.i.toNat]? with | some k => _ | none => _) = _
  rw [h1]
theorem move_lost {y : Wld} {x : MoveV} (hk : x.kind ≤ 2) (h0 : x.i < 0 ∨ (y.us.length : Int) ≤ x.i) : moveW y.abs x = y.abs := by
  unfold moveW
  rw [if_pos hk]
  split
  · rfl
  · rename_i hi
    have h1 : (y.us.map (·.k))[x.i.toNat]? = none := by rw [List.getElem?_eq_none]; rw [List.length_map]; omega
    show (match (y.us.map (·.k))[x.i.toNat]? with | some k => _ | none => _) = _
    rw [h1]
theorem hear_lost {w : WA} {x : MoveV} {k : Msg} (h : x.kind = 2) : hearW w x k = lessW w x := by unfold hearW; rw [if_pos h]
theorem hear_step {y : Wld} {x : MoveV} {k : Msg} {z : NP} (h : x.kind ≠ 2) (hz : y.ns[k.to.toNat]? = some z) : hearW y.abs x k = turnW (lessW y.abs x) k.to.toNat (stepR z.n k) := by
  have h1 : (y.ns.map (·.n))[k.to.toNat]? = some z.n := by rw [List.getElem?_map, hz]; rfl
  unfold hearW
  rw [if_neg h]
  show (match (y.ns.map (·.n))[k.to.toNat]? with | some n => _ | none => _) = _
  rw [h1]
theorem erase_row {us : List OMsg} {j w : Nat} (hj : j < us.length) (hw : w = j + 1) : 0 + j + (us.length - w) = (us.eraseIdx j).length ∧ List.take ((0 + j) * 10) (List.take (0 * 10) [] ++ saidV (us.take j)) ++ saidV (us.drop (j + 1)) = saidV (us.eraseIdx j) := by
  subst hw
  refine ⟨?_, ?_⟩
  · rw [List.length_eraseIdx, if_pos hj]; omega
  · have h1 : (List.take (0 * 10) ([] : List Value) ++ saidV (us.take j)) = saidV (us.take j) := by simp
    rw [h1, List.take_of_length_le (by rw [saidV_len, List.length_take]; omega), ← saidV_append, List.eraseIdx_eq_take_drop_succ]
theorem move_end {y y1 : Wld} {x : MoveV} {m m8 : Mem} {o : OMsg} {z np : NP} {os : List OMsg} (hI : InM m y) (hk : x.kind ≤ 2) (h0 : 0 ≤ x.i) (hou : y.us[x.i.toNat]? = some o) (hk2 : x.kind ≠ 2) (hz : y.ns[o.k.to.toNat]? = some z) (hY : lessY y x = y1)
    (hn : np.n = (stepR z.n o.k).n) (hks : os.map (·.k) = (stepR z.n o.k).ks) (he : (stepR z.n o.k).e = 0) (hx : ∀ b o, m b = some o → m8 b = some o) (h1 : Cells m8 np.A (itemsV np.n.log.items) ∧ np.n.log.items.length ≤ np.c) (h2 : Said m8 os) : moveSpec.C ⟨y, x, m⟩ (turnY y1 o.k.to.toNat np os, m8) := by
  subst hY
  refine ⟨?_, ((hI.less x).ext hx).turn h1 (said_short h2 hks (step_short _ _)), hx⟩
  show (turnY (lessY y x) _ np os).abs = moveW y.abs x
  rw [turn_abs hn hks he, less_abs, ← hear_step hk2 hz, ← move_hear hk h0 hou]
theorem move_err {y y1 : Wld} {x : MoveV} {m m8 : Mem} {o : OMsg} {z : NP} (hI : InM m y) (hk : x.kind ≤ 2) (h0 : 0 ≤ x.i) (hou : y.us[x.i.toNat]? = some o) (hk2 : x.kind ≠ 2) (hz : y.ns[o.k.to.toNat]? = some z) (hY : lessY y x = y1)
    (he : (stepR z.n o.k).e ≠ 0) (hx : ∀ b o, m b = some o → m8 b = some o) : moveSpec.C ⟨y, x, m⟩ (y1, m8) := by
  subst hY
  refine ⟨?_, (hI.less x).ext hx, hx⟩
  show (lessY y x).abs = moveW y.abs x
  rw [move_hear hk h0 hou, hear_step hk2 hz, turn_err he, less_abs]
theorem move_two {y y1 : Wld} {x : MoveV} {m m8 : Mem} {o : OMsg} (hI : InM m y) (h0 : 0 ≤ x.i) (hou : y.us[x.i.toNat]? = some o) (hk2 : x.kind = 2) (hY : lessY y x = y1) (hx : ∀ b o, m b = some o → m8 b = some o) : moveSpec.C ⟨y, x, m⟩ (y1, m8) := by
  subst hY
  refine ⟨?_, (hI.less x).ext hx, hx⟩
  show (lessY y x).abs = moveW y.abs x
  rw [move_hear (by omega) h0 hou, hear_lost hk2, less_abs]
theorem move_out {y : Wld} {x : MoveV} {m : Mem} (hI : InM m y) (hk : x.kind ≤ 2) (h0 : x.i < 0 ∨ (y.us.length : Int) ≤ x.i) : moveSpec.C ⟨y, x, m⟩ (y, m) := ⟨(move_lost hk h0).symm, hI, fun _ _ h => h⟩
theorem move_out' {y : Wld} {x : MoveV} {m : Mem} (hI : InM m y) (hk : ¬ x.kind ≤ 2) (h0 : x.who < 0 ∨ (y.ns.length : Int) ≤ x.who) : moveSpec.C ⟨y, x, m⟩ (y, m) := by
  refine ⟨?_, hI, fun _ _ h => h⟩
  show y.abs = moveW y.abs x
  unfold moveW
  rw [if_neg hk]
  split
  · rfl
  · rename_i hi
    have h1 : (y.ns.map (·.n))[x.who.toNat]? = none := by rw [List.getElem?_eq_none]; rw [List.length_map]; omega
    show _ = (match (y.ns.map (·.n))[x.who.toNat]? with | some n => _ | none => _)
    rw [h1]
theorem move_own {y : Wld} {x : MoveV} {z : NP} (hk : ¬ x.kind ≤ 2) (h0 : 0 ≤ x.who) (hz : y.ns[x.who.toNat]? = some z) : moveW y.abs x = ownW y.abs x z.n := by
  have h1 : (y.ns.map (·.n))[x.who.toNat]? = some z.n := by rw [List.getElem?_map, hz]; rfl
  unfold moveW
  rw [if_neg hk, if_neg (by omega)]
  show (match (y.ns.map (·.n))[x.who.toNat]? with | some n => _ | none => _) = _
  rw [h1]
/-- A node's own turn. -/
theorem own_end {y : Wld} {x : MoveV} {ct : Int} {m m8 : Mem} {z np : NP} {os : List OMsg} {r : StepR} (hI : InM m y) (hk : ¬ x.kind ≤ 2) (h0 : 0 ≤ x.who) (hz : y.ns[x.who.toNat]? = some z) (hr : ownW y.abs x z.n = turnW { y.abs with ct := ct } x.who.toNat r)
    (hn : np.n = r.n) (hks : os.map (·.k) = r.ks) (he : r.e = 0) (hsh : Short r.ks) (hx : ∀ b o, m b = some o → m8 b = some o) (h1 : Cells m8 np.A (itemsV np.n.log.items) ∧ np.n.log.items.length ≤ np.c) (h2 : Said m8 os) : moveSpec.C ⟨y, x, m⟩ (turnY { y with ct := ct } x.who.toNat np os, m8) := by
  have hI' : InM m { y with ct := ct } := ⟨hI.n, hI.u⟩
  refine ⟨?_, (hI'.ext hx).turn h1 (said_short h2 hks hsh), hx⟩
  show (turnY { y with ct := ct } _ np os).abs = moveW y.abs x
  rw [turn_abs hn hks he, move_own hk h0 hz, hr]
  rfl
theorem own_err {y : Wld} {x : MoveV} {ct : Int} {m m8 : Mem} {z : NP} {r : StepR} (hI : InM m y) (hk : ¬ x.kind ≤ 2) (h0 : 0 ≤ x.who) (hz : y.ns[x.who.toNat]? = some z) (hr : ownW y.abs x z.n = turnW { y.abs with ct := ct } x.who.toNat r)
    (he : r.e ≠ 0) (hx : ∀ b o, m b = some o → m8 b = some o) : moveSpec.C ⟨y, x, m⟩ ({ y with ct := ct }, m8) := by
  have hI' : InM m { y with ct := ct } := ⟨hI.n, hI.u⟩
  refine ⟨?_, hI'.ext hx, hx⟩
  show ({ y with ct := ct } : Wld).abs = moveW y.abs x
  rw [move_own hk h0 hz, hr, turn_err he]
  rfl
theorem newR_ks (a b : Int) (l : Log) : (newR a b l).ks = [] := by unfold newR; split <;> rfl
theorem compactR_ks (n : Node) (i : Int) (b : ByteArray) : (compactR n i b).ks = [] := by unfold compactR; split <;> rfl
set_option maxRecDepth 100000 in
set_option maxHeartbeats 40000000 in
theorem move_ok : SpecOk Try.prog 41 moveSpec := by
  refine spec_of_exec (fn := Try.f41) (c := Try.f41.body.getD .skip) (d := 1) (lv := ([0, 1, 3, 4, 5, 6, 7, 8, 9, 10, 13, 26, 37, 61, 77, 101, 111, 112, 120, 128, 149, 164, 174])) (DP := DPy T1 (CPs S29) ([0, 1, 3, 4, 5, 6, 7, 8, 9, 10, 13, 26, 37, 61, 77, 101, 111, 112, 120, 128, 149, 164, 174])) T1_ok S29_ok (fun B => DPy_ok T1_ok ord S29_ok B) moveSpec (by rfl) (by rfl) (by rfl) (fun _ => Nat.le_of_ble_eq_true (by kernel_rfl)) ?_
  rintro ⟨⟨ns, us, ts, ls, su, si, ct⟩, ⟨kind, who, i⟩, m⟩ ⟨hI, hm⟩
  conv => whnf
  refine ⟨fun hk => ?_, fun hk => ?_⟩
  · have hk : kind ≤ 2 := of_decide_eq_true hk
    conv => whnf
    refine Or.inl (Or.inl ?_)
    conv => whnf
    refine ⟨by kernel_rfl, ?_⟩
    conv => whnf
    refine ⟨fun ho => ?_, fun ho => ?_⟩
    · rw [ifor] at ho
      have ho : i < 0 ∨ (us.length : Int) ≤ i := by simpa using ho
      conv => whnf
      refine ⟨(_, m), move_out hI hk ho, ?_⟩
      conv => whnf
      repeat (first | exact trivial | exact fun _ _ h => h | (refine ⟨by first | exact ⟨rfl, rfl, rfl⟩ | rfl | exact ⟨rfl, rfl⟩ | exact ⟨rfl, fun _ _ => rfl⟩ | exact fun _ _ h => h | (intro _ _ h; cases h; done), ?_⟩; conv => whnf))
    · rw [ifor] at ho
      have ho : 0 ≤ i ∧ i < (us.length : Int) := by simpa using ho
      have hE := getIm (xs := us) (i := i.toNat) (by omega)
      refine Exists.elim hE fun o hou => ?_
      conv => whnf
      refine Or.inl (Or.inr ⟨[0,2,7], sc41_3, by kernel_rfl, ?_⟩)
      conv => whnf
      refine ⟨⟨ho.1, ho.2, Nat.le_refl _⟩, ?_⟩
      conv => whnf
      refine ⟨.g (msgC o.k (.sl o.A o.k.items.length o.c)), ⟨rfl, rfl, rfl, said_le hou, (said_at hou).symm⟩, ?_⟩
      conv => whnf
      repeat (first | exact trivial | (refine ⟨by first | exact ⟨rfl, rfl, rfl⟩ | rfl | exact ⟨rfl, rfl⟩ | exact ⟨rfl, fun _ _ => rfl⟩ | exact fun _ _ h => h | (intro _ _ h; cases h; done), ?_⟩; conv => whnf))
      refine ⟨fun hk1 => ?_, fun hk1 => ?_⟩
      · have hk1 : kind ≠ 1 := by simpa using hk1
        conv => whnf
        refine Or.inr ⟨[2], [0,7], tsc41_5, tr41_5, by kernel_rfl, by kernel_rfl, ?_⟩
        conv => whnf
        intro A2 c2 m2 hS2
        conv => whnf
        have hle2 : us.length ≤ c2 := hS2.le
        refine ⟨⟨ho.1, by show i ≤ (c2 : Int); omega⟩, ?_⟩
        conv => whnf
        have hw1 : IntKind.i64.wrap (i + 1) = i + 1 := wrapi ⟨by omega, by have := hm.u; have : us.length ≤ 256 := this; omega⟩
        refine ⟨⟨by show 0 ≤ IntKind.i64.wrap (i + 1); omega, by show IntKind.i64.wrap (i + 1) ≤ (us.length : Int); omega⟩, ?_⟩
        conv => whnf
        repeat (first | exact trivial | (refine ⟨by first | exact ⟨rfl, rfl, rfl⟩ | rfl | exact ⟨rfl, rfl⟩ | exact ⟨rfl, fun _ _ => rfl⟩ | exact fun _ _ h => h | (intro _ _ h; cases h; done), ?_⟩; conv => whnf))
        have hC2 : Cells m2 A2 (saidV us) := .of_sealed hS2
        have hl1 : i.toNat = (us.take i.toNat).length := by rw [List.length_take]; omega
        have hl2 : us.length - (IntKind.i64.wrap (i + 1)).toNat = (us.drop (i.toNat + 1)).length := by rw [List.length_drop, hw1]; omega
        have hu2 : (IntKind.i64.wrap (i + 1)).toNat = i.toNat + 1 := by rw [hw1]; omega
        refine ⟨saidV (us.take i.toNat), (hC2.takeM i.toNat).srcM hl1, ?_⟩
        conv => whnf
        refine ⟨⟨Nat.le_refl _, by show (0 + i.toNat) * 104 ≤ _; have := hm.u; have : us.length ≤ 256 := this; omega, by show 0 + i.toNat ≤ _; have := hm.u; have : us.length ≤ 256 := this; omega⟩, ?_⟩
        conv => whnf
        repeat (first | exact trivial | (refine ⟨by first | exact ⟨rfl, rfl, rfl⟩ | rfl | exact ⟨rfl, rfl⟩ | exact ⟨rfl, fun _ _ => rfl⟩ | exact fun _ _ h => h | (intro _ _ h; cases h; done), ?_⟩; conv => whnf))
        refine ⟨saidV (us.drop (i.toNat + 1)), Cells.srcM (by rw [← hu2]; exact hC2.sliceM hS2.le) hl2, ?_⟩
        conv => whnf
        refine ⟨⟨Nat.le_refl _, by show (0 + i.toNat + (us.length - (IntKind.i64.wrap (i + 1)).toNat)) * 104 ≤ _; have := hm.u; have : us.length ≤ 256 := this; omega, by show 0 + i.toNat + (us.length - (IntKind.i64.wrap (i + 1)).toNat) ≤ _; have := hm.u; have : us.length ≤ 256 := this; omega⟩, ?_⟩
        conv => whnf
        obtain ⟨hlen5, hrow5⟩ := erase_row (us := us) (j := i.toNat) (by omega) hu2
        have hul1 : (us.eraseIdx i.toNat).length ≤ 256 := by have h1 := hm.u; have h1 : us.length ≤ 256 := h1; have h2 := List.length_eraseIdx_le us i.toNat; omega
        have hY : lessY ⟨ns, us, ts, ls, su, si, ct⟩ ⟨kind, who, i⟩ = ⟨ns, us.eraseIdx i.toNat, ts, ls, su, si, ct⟩ := if_neg hk1
        refine ⟨fun hk2 => ?_, fun hk2 => ?_⟩
        · have hk2 : kind ≠ 2 := by simpa using hk2
          have hto := hm.t o (List.mem_of_getElem? hou)
          have hto : 0 ≤ o.k.to ∧ o.k.to < (ns.length : Int) := hto
          have hE := getNP (xs := ns) (i := o.k.to.toNat) (by omega)
          refine Exists.elim hE fun z hz => ?_
          have hzm := hI.n z (List.mem_of_getElem? hz)
          have hzl := hm.n z (List.mem_of_getElem? hz)
          have hom := hI.u o (List.mem_of_getElem? hou)
          conv => whnf
          refine Or.inr ⟨[], [0,1,7,8], tsc41_7, tr41_7, by kernel_rfl, by kernel_rfl, ?_⟩
          conv => whnf
          refine ⟨⟨hto.1, hto.2, Nat.le_refl _⟩, ?_⟩
          conv => whnf
          refine ⟨.g (nodeC z.n (.sl z.A z.n.log.items.length z.c)), ⟨rfl, rfl, rfl, np_le hz, np_at hz⟩, ?_⟩
          conv => whnf
          have hRs : stepSpec.R ⟨z.n, z.A, z.c, o.k, o.A, o.c, m2⟩ := ⟨⟨hzm.1.ext hS2.ext, hzm.2, hzl⟩, ⟨hom.1.ext hS2.ext, hom.2.1, Nat.lt_of_le_of_lt hom.2.2 (by decide)⟩⟩
          refine ⟨?_, ?_⟩
          · conv => whnf
            refine ⟨⟨z.n, z.A, z.c, o.k, o.A, o.c, m2⟩, hRs, ?_⟩
            conv => whnf
            repeat (first | exact trivial | (refine ⟨by first | exact ⟨rfl, rfl, rfl⟩ | rfl | exact ⟨rfl, rfl⟩ | exact ⟨rfl, fun _ _ => rfl⟩ | exact fun _ _ h => h | (intro _ _ h; cases h; done), ?_⟩; conv => whnf))
            rintro ⟨n7, A7, c7, os7, O7, oc7, m7⟩ ⟨hn7, hk7, ⟨hc7, hle7⟩, ⟨ho7, hoc7⟩, hs7, hx7, _⟩ m8 h28 h78
            conv => whnf
            repeat (first | exact trivial | (refine ⟨by first | exact ⟨rfl, rfl, rfl⟩ | rfl | exact ⟨rfl, rfl⟩ | exact ⟨rfl, fun _ _ => rfl⟩ | exact fun _ _ h => h | (intro _ _ h; cases h; done), ?_⟩; conv => whnf))
            refine ⟨fun he => ?_, fun he => ?_⟩
            · have he : (stepR z.n o.k).e = 0 := by simpa using he
              conv => whnf
              refine Or.inl (Or.inl ?_)
              conv => whnf
              refine ⟨by kernel_rfl, ?_⟩
              conv => whnf
              refine ⟨⟨hto.1, hto.2, Nat.le_refl _⟩, ?_⟩
              conv => whnf
              refine ⟨⟨np_le hz, rfl⟩, ?_⟩
              conv => whnf
              have hsl : ns.length = (ns.set o.k.to.toNat ⟨n7, A7, c7⟩).length := by rw [List.length_set]
              have hrow8 := nps_set (np := ⟨n7, A7, c7⟩) hz
              have hsh := step_short z.n o.k
              have hk7 : os7.map (·.k) = (stepR z.n o.k).ks := hk7
              have hol7 : os7.length < 2 ^ 62 := by have := hsh.l; rw [← hk7, List.length_map] at this; omega
              refine ⟨⟨⟨ns.set o.k.to.toNat ⟨n7, A7, c7⟩, us.eraseIdx i.toNat, ts, ls, su, si, ct⟩, os7, O7, oc7, m8⟩, ⟨ho7.ext h78, hol7, hul1⟩, ?_⟩
              conv => whnf
              repeat (first | exact trivial | (refine ⟨by first | exact ⟨rfl, rfl, rfl⟩ | rfl | exact ⟨rfl, rfl⟩ | exact ⟨rfl, fun _ _ => rfl⟩ | exact fun _ _ h => h | (intro _ _ h; cases h; done) | exact hsl | exact hlen5 | exact ⟨hsl, hrow8⟩ | exact ⟨hlen5, hrow5⟩ | exact ⟨rfl, hlen5, rfl⟩, ?_⟩; conv => whnf))
              rintro _ rfl
              conv => whnf
              refine ⟨(_, m8), move_end (np := ⟨n7, A7, c7⟩) hI hk ho.1 hou hk2 hz hY hn7 hk7 he (ext_trans hS2.ext h28) ⟨hc7.ext h78, hle7⟩ (hs7.ext h78), ?_⟩
              conv => whnf
              repeat (first | exact trivial | exact fun _ _ h => h | (refine ⟨by first | exact ⟨rfl, rfl, rfl⟩ | rfl | exact ⟨rfl, rfl⟩ | exact ⟨rfl, fun _ _ => rfl⟩ | exact fun _ _ h => h | (intro _ _ h; cases h; done), ?_⟩; conv => whnf))
              exact ⟨ext_trans hS2.ext h28, fun _ _ h => h⟩
            · have he : (stepR z.n o.k).e ≠ 0 := by simpa using he
              refine ⟨(_, m8), move_err hI hk ho.1 hou hk2 hz hY he (ext_trans hS2.ext h28), ?_⟩
              conv => whnf
              repeat (first | exact trivial | exact fun _ _ h => h | (refine ⟨by first | exact ⟨rfl, rfl, rfl⟩ | rfl | exact ⟨rfl, rfl⟩ | exact ⟨rfl, fun _ _ => rfl⟩ | exact fun _ _ h => h | (intro _ _ h; cases h; done) | exact hlen5 | exact ⟨hlen5, hrow5⟩, ?_⟩; conv => whnf))
              exact ⟨ext_trans hS2.ext h28, fun _ _ h => h⟩
          · conv => whnf
            repeat (first | exact trivial | (refine ⟨by first | exact ⟨rfl, rfl, rfl⟩ | rfl | exact ⟨rfl, rfl⟩ | exact ⟨rfl, fun _ _ => rfl⟩ | exact fun _ _ h => h | (intro _ _ h; cases h; done), ?_⟩; conv => whnf))
            refine ⟨⟨z.n, z.A, z.c, o.k, o.A, o.c, m2⟩, hRs, ?_⟩
            conv => whnf
            repeat (first | exact trivial | (refine ⟨by first | exact ⟨rfl, rfl, rfl⟩ | rfl | exact ⟨rfl, rfl⟩ | exact ⟨rfl, fun _ _ => rfl⟩ | exact fun _ _ h => h | (intro _ _ h; cases h; done), ?_⟩; conv => whnf))
            rintro ⟨n7, A7, c7, os7, O7, oc7, m7⟩ ⟨hn7, hk7, ⟨hc7, hle7⟩, ⟨ho7, hoc7⟩, hs7, hx7, _⟩ m8 h28 h78
            conv => whnf
            repeat (first | exact trivial | (refine ⟨by first | exact ⟨rfl, rfl, rfl⟩ | rfl | exact ⟨rfl, rfl⟩ | exact ⟨rfl, fun _ _ => rfl⟩ | exact fun _ _ h => h | (intro _ _ h; cases h; done), ?_⟩; conv => whnf))
            refine ⟨fun he => ?_, fun he => ?_⟩
            · have he : (stepR z.n o.k).e = 0 := by simpa using he
              conv => whnf
              refine Or.inl (Or.inl ?_)
              conv => whnf
              refine ⟨by kernel_rfl, ?_⟩
              conv => whnf
              refine ⟨⟨hto.1, hto.2, Nat.le_refl _⟩, ?_⟩
              conv => whnf
              refine ⟨⟨np_le hz, rfl⟩, ?_⟩
              conv => whnf
              have hsl : ns.length = (ns.set o.k.to.toNat ⟨n7, A7, c7⟩).length := by rw [List.length_set]
              have hrow8 := nps_set (np := ⟨n7, A7, c7⟩) hz
              have hsh := step_short z.n o.k
              have hk7 : os7.map (·.k) = (stepR z.n o.k).ks := hk7
              have hol7 : os7.length < 2 ^ 62 := by have := hsh.l; rw [← hk7, List.length_map] at this; omega
              refine ⟨⟨⟨ns.set o.k.to.toNat ⟨n7, A7, c7⟩, us.eraseIdx i.toNat, ts, ls, su, si, ct⟩, os7, O7, oc7, m8⟩, ⟨ho7.ext h78, hol7, hul1⟩, ?_⟩
              conv => whnf
              repeat (first | exact trivial | (refine ⟨by first | exact ⟨rfl, rfl, rfl⟩ | rfl | exact ⟨rfl, rfl⟩ | exact ⟨rfl, fun _ _ => rfl⟩ | exact fun _ _ h => h | (intro _ _ h; cases h; done) | exact hsl | exact hlen5 | exact ⟨hsl, hrow8⟩ | exact ⟨hlen5, hrow5⟩ | exact ⟨rfl, hlen5, rfl⟩, ?_⟩; conv => whnf))
              rintro _ rfl
              conv => whnf
              refine ⟨(_, m8), move_end (np := ⟨n7, A7, c7⟩) hI hk ho.1 hou hk2 hz hY hn7 hk7 he (ext_trans hS2.ext h28) ⟨hc7.ext h78, hle7⟩ (hs7.ext h78), ?_⟩
              conv => whnf
              repeat (first | exact trivial | exact fun _ _ h => h | (refine ⟨by first | exact ⟨rfl, rfl, rfl⟩ | rfl | exact ⟨rfl, rfl⟩ | exact ⟨rfl, fun _ _ => rfl⟩ | exact fun _ _ h => h | (intro _ _ h; cases h; done), ?_⟩; conv => whnf))
              exact ⟨ext_trans hS2.ext h28, fun _ _ h => h⟩
            · have he : (stepR z.n o.k).e ≠ 0 := by simpa using he
              refine ⟨(_, m8), move_err hI hk ho.1 hou hk2 hz hY he (ext_trans hS2.ext h28), ?_⟩
              conv => whnf
              repeat (first | exact trivial | exact fun _ _ h => h | (refine ⟨by first | exact ⟨rfl, rfl, rfl⟩ | rfl | exact ⟨rfl, rfl⟩ | exact ⟨rfl, fun _ _ => rfl⟩ | exact fun _ _ h => h | (intro _ _ h; cases h; done) | exact hlen5 | exact ⟨hlen5, hrow5⟩, ?_⟩; conv => whnf))
              exact ⟨ext_trans hS2.ext h28, fun _ _ h => h⟩
        · have hk2 : kind = 2 := by simpa using hk2
          refine ⟨(_, m2), move_two hI ho.1 hou hk2 hY hS2.ext, ?_⟩
          conv => whnf
          repeat (first | exact trivial | exact fun _ _ h => h | (refine ⟨by first | exact ⟨rfl, rfl, rfl⟩ | rfl | exact ⟨rfl, rfl⟩ | exact ⟨rfl, fun _ _ => rfl⟩ | exact fun _ _ h => h | (intro _ _ h; cases h; done) | exact hlen5 | exact ⟨hlen5, hrow5⟩, ?_⟩; conv => whnf))
          try exact ⟨hS2.ext, fun _ _ h => h⟩
      · have hk1 : kind = 1 := by simpa using hk1
        have hul1 : us.length ≤ 256 := hm.u
        have hlen5 : us.length = us.length := rfl
        have hrow5 : saidV us = saidV us := rfl
        have hY : lessY ⟨ns, us, ts, ls, su, si, ct⟩ ⟨kind, who, i⟩ = ⟨ns, us, ts, ls, su, si, ct⟩ := if_pos hk1
        have hnx : ∀ b o, m b = some o → m b = some o := fun _ _ h => h
        conv => whnf
        refine ⟨fun hk2 => ?_, fun hk2 => ?_⟩
        · have hk2 : kind ≠ 2 := by simpa using hk2
          have hto := hm.t o (List.mem_of_getElem? hou)
          have hto : 0 ≤ o.k.to ∧ o.k.to < (ns.length : Int) := hto
          have hE := getNP (xs := ns) (i := o.k.to.toNat) (by omega)
          refine Exists.elim hE fun z hz => ?_
          have hzm := hI.n z (List.mem_of_getElem? hz)
          have hzl := hm.n z (List.mem_of_getElem? hz)
          have hom := hI.u o (List.mem_of_getElem? hou)
          conv => whnf
          refine Or.inr ⟨[], [0,1,7,8], tsc41_7, tr41_7, by kernel_rfl, by kernel_rfl, ?_⟩
          conv => whnf
          refine ⟨⟨hto.1, hto.2, Nat.le_refl _⟩, ?_⟩
          conv => whnf
          refine ⟨.g (nodeC z.n (.sl z.A z.n.log.items.length z.c)), ⟨rfl, rfl, rfl, np_le hz, np_at hz⟩, ?_⟩
          conv => whnf
          have hRs : stepSpec.R ⟨z.n, z.A, z.c, o.k, o.A, o.c, m⟩ := ⟨⟨hzm.1.ext hnx, hzm.2, hzl⟩, ⟨hom.1.ext hnx, hom.2.1, Nat.lt_of_le_of_lt hom.2.2 (by decide)⟩⟩
          refine ⟨?_, ?_⟩
          · conv => whnf
            refine ⟨⟨z.n, z.A, z.c, o.k, o.A, o.c, m⟩, hRs, ?_⟩
            conv => whnf
            repeat (first | exact trivial | (refine ⟨by first | exact ⟨rfl, rfl, rfl⟩ | rfl | exact ⟨rfl, rfl⟩ | exact ⟨rfl, fun _ _ => rfl⟩ | exact fun _ _ h => h | (intro _ _ h; cases h; done), ?_⟩; conv => whnf))
            rintro ⟨n7, A7, c7, os7, O7, oc7, m7⟩ ⟨hn7, hk7, ⟨hc7, hle7⟩, ⟨ho7, hoc7⟩, hs7, hx7, _⟩ m8 h28 h78
            conv => whnf
            repeat (first | exact trivial | (refine ⟨by first | exact ⟨rfl, rfl, rfl⟩ | rfl | exact ⟨rfl, rfl⟩ | exact ⟨rfl, fun _ _ => rfl⟩ | exact fun _ _ h => h | (intro _ _ h; cases h; done), ?_⟩; conv => whnf))
            refine ⟨fun he => ?_, fun he => ?_⟩
            · have he : (stepR z.n o.k).e = 0 := by simpa using he
              conv => whnf
              refine Or.inl (Or.inl ?_)
              conv => whnf
              refine ⟨by kernel_rfl, ?_⟩
              conv => whnf
              refine ⟨⟨hto.1, hto.2, Nat.le_refl _⟩, ?_⟩
              conv => whnf
              refine ⟨⟨np_le hz, rfl⟩, ?_⟩
              conv => whnf
              have hsl : ns.length = (ns.set o.k.to.toNat ⟨n7, A7, c7⟩).length := by rw [List.length_set]
              have hrow8 := nps_set (np := ⟨n7, A7, c7⟩) hz
              have hsh := step_short z.n o.k
              have hk7 : os7.map (·.k) = (stepR z.n o.k).ks := hk7
              have hol7 : os7.length < 2 ^ 62 := by have := hsh.l; rw [← hk7, List.length_map] at this; omega
              refine ⟨⟨⟨ns.set o.k.to.toNat ⟨n7, A7, c7⟩, us, ts, ls, su, si, ct⟩, os7, O7, oc7, m8⟩, ⟨ho7.ext h78, hol7, hul1⟩, ?_⟩
              conv => whnf
              repeat (first | exact trivial | (refine ⟨by first | exact ⟨rfl, rfl, rfl⟩ | rfl | exact ⟨rfl, rfl⟩ | exact ⟨rfl, fun _ _ => rfl⟩ | exact fun _ _ h => h | (intro _ _ h; cases h; done) | exact hsl | exact hlen5 | exact ⟨hsl, hrow8⟩ | exact ⟨hlen5, hrow5⟩ | exact ⟨rfl, hlen5, rfl⟩, ?_⟩; conv => whnf))
              rintro _ rfl
              conv => whnf
              refine ⟨(_, m8), move_end (np := ⟨n7, A7, c7⟩) hI hk ho.1 hou hk2 hz hY hn7 hk7 he (ext_trans hnx h28) ⟨hc7.ext h78, hle7⟩ (hs7.ext h78), ?_⟩
              conv => whnf
              repeat (first | exact trivial | exact fun _ _ h => h | (refine ⟨by first | exact ⟨rfl, rfl, rfl⟩ | rfl | exact ⟨rfl, rfl⟩ | exact ⟨rfl, fun _ _ => rfl⟩ | exact fun _ _ h => h | (intro _ _ h; cases h; done), ?_⟩; conv => whnf))
              exact ⟨ext_trans hnx h28, fun _ _ h => h⟩
            · have he : (stepR z.n o.k).e ≠ 0 := by simpa using he
              refine ⟨(_, m8), move_err hI hk ho.1 hou hk2 hz hY he (ext_trans hnx h28), ?_⟩
              conv => whnf
              repeat (first | exact trivial | exact fun _ _ h => h | (refine ⟨by first | exact ⟨rfl, rfl, rfl⟩ | rfl | exact ⟨rfl, rfl⟩ | exact ⟨rfl, fun _ _ => rfl⟩ | exact fun _ _ h => h | (intro _ _ h; cases h; done) | exact hlen5 | exact ⟨hlen5, hrow5⟩, ?_⟩; conv => whnf))
              exact ⟨ext_trans hnx h28, fun _ _ h => h⟩
          · conv => whnf
            repeat (first | exact trivial | (refine ⟨by first | exact ⟨rfl, rfl, rfl⟩ | rfl | exact ⟨rfl, rfl⟩ | exact ⟨rfl, fun _ _ => rfl⟩ | exact fun _ _ h => h | (intro _ _ h; cases h; done), ?_⟩; conv => whnf))
            refine ⟨⟨z.n, z.A, z.c, o.k, o.A, o.c, m⟩, hRs, ?_⟩
            conv => whnf
            repeat (first | exact trivial | (refine ⟨by first | exact ⟨rfl, rfl, rfl⟩ | rfl | exact ⟨rfl, rfl⟩ | exact ⟨rfl, fun _ _ => rfl⟩ | exact fun _ _ h => h | (intro _ _ h; cases h; done), ?_⟩; conv => whnf))
            rintro ⟨n7, A7, c7, os7, O7, oc7, m7⟩ ⟨hn7, hk7, ⟨hc7, hle7⟩, ⟨ho7, hoc7⟩, hs7, hx7, _⟩ m8 h28 h78
            conv => whnf
            repeat (first | exact trivial | (refine ⟨by first | exact ⟨rfl, rfl, rfl⟩ | rfl | exact ⟨rfl, rfl⟩ | exact ⟨rfl, fun _ _ => rfl⟩ | exact fun _ _ h => h | (intro _ _ h; cases h; done), ?_⟩; conv => whnf))
            refine ⟨fun he => ?_, fun he => ?_⟩
            · have he : (stepR z.n o.k).e = 0 := by simpa using he
              conv => whnf
              refine Or.inl (Or.inl ?_)
              conv => whnf
              refine ⟨by kernel_rfl, ?_⟩
              conv => whnf
              refine ⟨⟨hto.1, hto.2, Nat.le_refl _⟩, ?_⟩
              conv => whnf
              refine ⟨⟨np_le hz, rfl⟩, ?_⟩
              conv => whnf
              have hsl : ns.length = (ns.set o.k.to.toNat ⟨n7, A7, c7⟩).length := by rw [List.length_set]
              have hrow8 := nps_set (np := ⟨n7, A7, c7⟩) hz
              have hsh := step_short z.n o.k
              have hk7 : os7.map (·.k) = (stepR z.n o.k).ks := hk7
              have hol7 : os7.length < 2 ^ 62 := by have := hsh.l; rw [← hk7, List.length_map] at this; omega
              refine ⟨⟨⟨ns.set o.k.to.toNat ⟨n7, A7, c7⟩, us, ts, ls, su, si, ct⟩, os7, O7, oc7, m8⟩, ⟨ho7.ext h78, hol7, hul1⟩, ?_⟩
              conv => whnf
              repeat (first | exact trivial | (refine ⟨by first | exact ⟨rfl, rfl, rfl⟩ | rfl | exact ⟨rfl, rfl⟩ | exact ⟨rfl, fun _ _ => rfl⟩ | exact fun _ _ h => h | (intro _ _ h; cases h; done) | exact hsl | exact hlen5 | exact ⟨hsl, hrow8⟩ | exact ⟨hlen5, hrow5⟩ | exact ⟨rfl, hlen5, rfl⟩, ?_⟩; conv => whnf))
              rintro _ rfl
              conv => whnf
              refine ⟨(_, m8), move_end (np := ⟨n7, A7, c7⟩) hI hk ho.1 hou hk2 hz hY hn7 hk7 he (ext_trans hnx h28) ⟨hc7.ext h78, hle7⟩ (hs7.ext h78), ?_⟩
              conv => whnf
              repeat (first | exact trivial | exact fun _ _ h => h | (refine ⟨by first | exact ⟨rfl, rfl, rfl⟩ | rfl | exact ⟨rfl, rfl⟩ | exact ⟨rfl, fun _ _ => rfl⟩ | exact fun _ _ h => h | (intro _ _ h; cases h; done), ?_⟩; conv => whnf))
              exact ⟨ext_trans hnx h28, fun _ _ h => h⟩
            · have he : (stepR z.n o.k).e ≠ 0 := by simpa using he
              refine ⟨(_, m8), move_err hI hk ho.1 hou hk2 hz hY he (ext_trans hnx h28), ?_⟩
              conv => whnf
              repeat (first | exact trivial | exact fun _ _ h => h | (refine ⟨by first | exact ⟨rfl, rfl, rfl⟩ | rfl | exact ⟨rfl, rfl⟩ | exact ⟨rfl, fun _ _ => rfl⟩ | exact fun _ _ h => h | (intro _ _ h; cases h; done) | exact hlen5 | exact ⟨hlen5, hrow5⟩, ?_⟩; conv => whnf))
              exact ⟨ext_trans hnx h28, fun _ _ h => h⟩
        · have hk2 : kind = 2 := by simpa using hk2
          refine ⟨(_, m), move_two hI ho.1 hou hk2 hY hnx, ?_⟩
          conv => whnf
          repeat (first | exact trivial | exact fun _ _ h => h | (refine ⟨by first | exact ⟨rfl, rfl, rfl⟩ | rfl | exact ⟨rfl, rfl⟩ | exact ⟨rfl, fun _ _ => rfl⟩ | exact fun _ _ h => h | (intro _ _ h; cases h; done) | exact hlen5 | exact ⟨hlen5, hrow5⟩, ?_⟩; conv => whnf))
          try exact ⟨hnx, fun _ _ h => h⟩
  · have hk : ¬ kind ≤ 2 := of_decide_eq_false hk
    conv => whnf
    refine Or.inl (Or.inl ?_)
    conv => whnf
    refine ⟨by kernel_rfl, ?_⟩
    conv => whnf
    refine ⟨fun ho => ?_, fun ho => ?_⟩
    · rw [ifor] at ho
      have ho : who < 0 ∨ (ns.length : Int) ≤ who := by simpa using ho
      conv => whnf
      refine ⟨(_, m), move_out' hI hk ho, ?_⟩
      conv => whnf
      repeat (first | exact trivial | exact fun _ _ h => h | (refine ⟨by first | exact ⟨rfl, rfl, rfl⟩ | rfl | exact ⟨rfl, rfl⟩ | exact ⟨rfl, fun _ _ => rfl⟩ | exact fun _ _ h => h | (intro _ _ h; cases h; done), ?_⟩; conv => whnf))
    · rw [ifor] at ho
      have ho : 0 ≤ who ∧ who < (ns.length : Int) := by simpa using ho
      have hE := getNP (xs := ns) (i := who.toNat) (by omega)
      refine Exists.elim hE fun z hz => ?_
      have hzm := hI.n z (List.mem_of_getElem? hz)
      have hzl := hm.n z (List.mem_of_getElem? hz)
      conv => whnf
      refine Or.inl (Or.inr ⟨[0,1,7], sc41_12, by kernel_rfl, ?_⟩)
      conv => whnf
      refine ⟨⟨ho.1, ho.2, Nat.le_refl _⟩, ?_⟩
      conv => whnf
      refine ⟨.g (nodeC z.n (.sl z.A z.n.log.items.length z.c)), ⟨rfl, rfl, rfl, np_le hz, np_at hz⟩, ?_⟩
      conv => whnf
      repeat (first | exact trivial | (refine ⟨by first | exact ⟨rfl, rfl, rfl⟩ | rfl | exact ⟨rfl, rfl⟩ | exact ⟨rfl, fun _ _ => rfl⟩ | exact fun _ _ h => h | (intro _ _ h; cases h; done), ?_⟩; conv => whnf))
      refine ⟨fun hk3 => ?_, fun hk3 => ?_⟩
      · have hk3 : kind = 3 := by simpa using hk3
        conv => whnf
        refine ⟨⟨z.n, z.A, z.c, m⟩, ⟨hzm.1, hzm.2, hzl⟩, ?_⟩
        conv => whnf
        repeat (first | exact trivial | (refine ⟨by first | exact ⟨rfl, rfl, rfl⟩ | rfl | exact ⟨rfl, rfl⟩ | exact ⟨rfl, fun _ _ => rfl⟩ | exact fun _ _ h => h | (intro _ _ h; cases h; done), ?_⟩; conv => whnf))
        rintro ⟨n7, A7, c7, os7, O7, oc7, m7⟩ ⟨hn7, hk7, ⟨hc7, hle7⟩, ⟨ho7, hoc7⟩, hs7, hx7, _⟩ m8 h28 h78
        have hc8 : Cells m8 A7 (itemsV n7.log.items) ∧ n7.log.items.length ≤ c7 := ⟨hc7.ext h78, hle7⟩
        have ho8 : Cells m8 O7 (saidV os7) := ho7.ext h78
        have hs8 : Said m8 os7 := hs7.ext h78
        have hx8 : ∀ b o, m b = some o → m8 b = some o := h28
        have hk7 : os7.map (·.k) = (timeoutR z.n).ks := hk7
        have hn7 : n7 = (timeoutR z.n).n := hn7
        conv => whnf
        refine ⟨fun he => ?_, fun he => ?_⟩
        · have he : (timeoutR z.n).e = 0 := eq_of_beq he
          conv => whnf
          refine Or.inl (Or.inl ?_)
          conv => whnf
          refine ⟨by kernel_rfl, ?_⟩
          conv => whnf
          refine ⟨⟨ho.1, ho.2, Nat.le_refl _⟩, ?_⟩
          conv => whnf
          refine ⟨⟨np_le hz, rfl⟩, ?_⟩
          conv => whnf
          have hsl : ns.length = (ns.set who.toNat ⟨n7, A7, c7⟩).length := by rw [List.length_set]
          have hrow8 := nps_set (np := ⟨n7, A7, c7⟩) hz
          have hsh : Short (timeoutR z.n).ks := timeout_short z.n
          have hol7 : (os7).length < 2 ^ 62 := by have := hsh.l; rw [← hk7, List.length_map] at this; omega
          refine ⟨⟨⟨ns.set who.toNat ⟨n7, A7, c7⟩, us, ts, ls, su, si, ct⟩, os7, O7, oc7, m8⟩, ⟨ho8, hol7, hm.u⟩, ?_⟩
          conv => whnf
          repeat (first | exact trivial | (refine ⟨by first | exact ⟨rfl, rfl, rfl⟩ | rfl | exact ⟨rfl, rfl⟩ | exact ⟨rfl, fun _ _ => rfl⟩ | exact fun _ _ h => h | (intro _ _ h; cases h; done) | exact hsl | exact ⟨hsl, hrow8⟩, ?_⟩; conv => whnf))
          rintro _ rfl
          conv => whnf
          refine ⟨(_, m8), own_end (ct := ct) (np := ⟨n7, A7, c7⟩) (r := timeoutR z.n) hI hk ho.1 hz (if_pos hk3) hn7 hk7 he hsh hx8 hc8 hs8, ?_⟩
          conv => whnf
          repeat (first | exact trivial | exact fun _ _ h => h | (refine ⟨by first | exact ⟨rfl, rfl, rfl⟩ | rfl | exact ⟨rfl, rfl⟩ | exact ⟨rfl, fun _ _ => rfl⟩ | exact fun _ _ h => h | (intro _ _ h; cases h; done), ?_⟩; conv => whnf))
          try exact ⟨hx8, fun _ _ h => h⟩
        · have he : (timeoutR z.n).e ≠ 0 := ne_of_beq_false he
          refine ⟨(_, m8), own_err (ct := ct) (r := timeoutR z.n) hI hk ho.1 hz (if_pos hk3) he hx8, ?_⟩
          conv => whnf
          repeat (first | exact trivial | exact fun _ _ h => h | (refine ⟨by first | exact ⟨rfl, rfl, rfl⟩ | rfl | exact ⟨rfl, rfl⟩ | exact ⟨rfl, fun _ _ => rfl⟩ | exact fun _ _ h => h | (intro _ _ h; cases h; done), ?_⟩; conv => whnf))
          try exact ⟨hx8, fun _ _ h => h⟩
      have hk3 : ¬ kind = 3 := by simpa using hk3
      conv => whnf
      refine ⟨fun hk4 => ?_, fun hk4 => ?_⟩
      · have hk4 : kind = 4 := by simpa using hk4
        conv => whnf
        refine ⟨⟨z.n, z.A, z.c, m⟩, ⟨hzm.1, hzm.2, hzl⟩, ?_⟩
        conv => whnf
        repeat (first | exact trivial | (refine ⟨by first | exact ⟨rfl, rfl, rfl⟩ | rfl | exact ⟨rfl, rfl⟩ | exact ⟨rfl, fun _ _ => rfl⟩ | exact fun _ _ h => h | (intro _ _ h; cases h; done), ?_⟩; conv => whnf))
        rintro ⟨n7, A7, c7, os7, O7, oc7, m7⟩ ⟨hn7, hk7, ⟨hc7, hle7⟩, ⟨ho7, hoc7⟩, hs7, hx7, _⟩ m8 h28 h78
        have hc8 : Cells m8 A7 (itemsV n7.log.items) ∧ n7.log.items.length ≤ c7 := ⟨hc7.ext h78, hle7⟩
        have ho8 : Cells m8 O7 (saidV os7) := ho7.ext h78
        have hs8 : Said m8 os7 := hs7.ext h78
        have hx8 : ∀ b o, m b = some o → m8 b = some o := h28
        have hk7 : os7.map (·.k) = (beatR z.n).ks := hk7
        have hn7 : n7 = (beatR z.n).n := hn7
        conv => whnf
        have hr : ownW (Wld.abs ⟨ns, us, ts, ls, su, si, ct⟩) ⟨kind, who, i⟩ z.n = turnW (Wld.abs ⟨ns, us, ts, ls, su, si, ct⟩) who.toNat (beatR z.n) := by unfold ownW; rw [if_neg hk3, if_pos hk4]
        refine ⟨fun he => ?_, fun he => ?_⟩
        · have he : (beatR z.n).e = 0 := eq_of_beq he
          conv => whnf
          refine Or.inl (Or.inl ?_)
          conv => whnf
          refine ⟨by kernel_rfl, ?_⟩
          conv => whnf
          refine ⟨⟨ho.1, ho.2, Nat.le_refl _⟩, ?_⟩
          conv => whnf
          refine ⟨⟨np_le hz, rfl⟩, ?_⟩
          conv => whnf
          have hsl : ns.length = (ns.set who.toNat ⟨n7, A7, c7⟩).length := by rw [List.length_set]
          have hrow8 := nps_set (np := ⟨n7, A7, c7⟩) hz
          have hsh : Short (beatR z.n).ks := beat_short z.n
          have hol7 : (os7).length < 2 ^ 62 := by have := hsh.l; rw [← hk7, List.length_map] at this; omega
          refine ⟨⟨⟨ns.set who.toNat ⟨n7, A7, c7⟩, us, ts, ls, su, si, ct⟩, os7, O7, oc7, m8⟩, ⟨ho8, hol7, hm.u⟩, ?_⟩
          conv => whnf
          repeat (first | exact trivial | (refine ⟨by first | exact ⟨rfl, rfl, rfl⟩ | rfl | exact ⟨rfl, rfl⟩ | exact ⟨rfl, fun _ _ => rfl⟩ | exact fun _ _ h => h | (intro _ _ h; cases h; done) | exact hsl | exact ⟨hsl, hrow8⟩, ?_⟩; conv => whnf))
          rintro _ rfl
          conv => whnf
          refine ⟨(_, m8), own_end (ct := ct) (np := ⟨n7, A7, c7⟩) (r := beatR z.n) hI hk ho.1 hz hr hn7 hk7 he hsh hx8 hc8 hs8, ?_⟩
          conv => whnf
          repeat (first | exact trivial | exact fun _ _ h => h | (refine ⟨by first | exact ⟨rfl, rfl, rfl⟩ | rfl | exact ⟨rfl, rfl⟩ | exact ⟨rfl, fun _ _ => rfl⟩ | exact fun _ _ h => h | (intro _ _ h; cases h; done), ?_⟩; conv => whnf))
          try exact ⟨hx8, fun _ _ h => h⟩
        · have he : (beatR z.n).e ≠ 0 := ne_of_beq_false he
          refine ⟨(_, m8), own_err (ct := ct) (r := beatR z.n) hI hk ho.1 hz hr he hx8, ?_⟩
          conv => whnf
          repeat (first | exact trivial | exact fun _ _ h => h | (refine ⟨by first | exact ⟨rfl, rfl, rfl⟩ | rfl | exact ⟨rfl, rfl⟩ | exact ⟨rfl, fun _ _ => rfl⟩ | exact fun _ _ h => h | (intro _ _ h; cases h; done), ?_⟩; conv => whnf))
          try exact ⟨hx8, fun _ _ h => h⟩
      have hk4 : ¬ kind = 4 := by simpa using hk4
      conv => whnf
      refine ⟨fun hk5 => ?_, fun hk5 => ?_⟩
      · have hk5 : kind = 5 := by simpa using hk5
        conv => whnf
        refine Or.inl (Or.inr ⟨[], sc41_22, by kernel_rfl, ?_⟩)
        conv => whnf
        refine ⟨⟨z.n, z.A, z.c, seqE (IntKind.i64.wrap (ct + 1)), m⟩, ⟨hzm.1, hzm.2, hzl⟩, ?_⟩
        conv => whnf
        repeat (first | exact trivial | (refine ⟨by first | exact ⟨rfl, rfl, rfl⟩ | rfl | exact ⟨rfl, rfl⟩ | exact ⟨rfl, fun _ _ => rfl⟩ | exact fun _ _ h => h | (intro _ _ h; cases h; done), ?_⟩; conv => whnf))
        rintro ⟨n7, A7, c7, os7, O7, oc7, m7⟩ ⟨hn7, hk7, ⟨hc7, hle7⟩, ⟨ho7, hoc7⟩, hs7, hx7, _⟩ m8 h28 h78
        have hc8 : Cells m8 A7 (itemsV n7.log.items) ∧ n7.log.items.length ≤ c7 := ⟨hc7.ext h78, hle7⟩
        have ho8 : Cells m8 O7 (saidV os7) := ho7.ext h78
        have hs8 : Said m8 os7 := hs7.ext h78
        have hx8 : ∀ b o, m b = some o → m8 b = some o := h28
        have hk7 : os7.map (·.k) = (proS z.n (seqE (IntKind.i64.wrap (ct + 1)))).ks := hk7
        have hn7 : n7 = (proS z.n (seqE (IntKind.i64.wrap (ct + 1)))).n := hn7
        conv => whnf
        repeat (first | exact trivial | (refine ⟨by first | exact ⟨rfl, rfl, rfl⟩ | rfl | exact ⟨rfl, rfl⟩ | exact ⟨rfl, fun _ _ => rfl⟩ | exact fun _ _ h => h | (intro _ _ h; cases h; done), ?_⟩; conv => whnf))
        have hr : ownW (Wld.abs ⟨ns, us, ts, ls, su, si, ct⟩) ⟨kind, who, i⟩ z.n = turnW { Wld.abs ⟨ns, us, ts, ls, su, si, ct⟩ with ct := IntKind.i64.wrap (ct + 1) } who.toNat (proS z.n (seqE (IntKind.i64.wrap (ct + 1)))) := by unfold ownW; rw [if_neg hk3, if_neg hk4, if_pos hk5]; rfl
        refine ⟨fun he => ?_, fun he => ?_⟩
        · have he : (proS z.n (seqE (IntKind.i64.wrap (ct + 1)))).e = 0 := eq_of_beq he
          conv => whnf
          refine Or.inl (Or.inl ?_)
          conv => whnf
          refine ⟨by kernel_rfl, ?_⟩
          conv => whnf
          refine ⟨⟨ho.1, ho.2, Nat.le_refl _⟩, ?_⟩
          conv => whnf
          refine ⟨⟨np_le hz, rfl⟩, ?_⟩
          conv => whnf
          have hsl : ns.length = (ns.set who.toNat ⟨n7, A7, c7⟩).length := by rw [List.length_set]
          have hrow8 := nps_set (np := ⟨n7, A7, c7⟩) hz
          have hsh : Short (proS z.n (seqE (IntKind.i64.wrap (ct + 1)))).ks := propose_short z.n _
          have hol7 : (os7).length < 2 ^ 62 := by have := hsh.l; rw [← hk7, List.length_map] at this; omega
          refine ⟨⟨⟨ns.set who.toNat ⟨n7, A7, c7⟩, us, ts, ls, su, si, (IntKind.i64.wrap (ct + 1))⟩, os7, O7, oc7, m8⟩, ⟨ho8, hol7, hm.u⟩, ?_⟩
          conv => whnf
          repeat (first | exact trivial | (refine ⟨by first | exact ⟨rfl, rfl, rfl⟩ | rfl | exact ⟨rfl, rfl⟩ | exact ⟨rfl, fun _ _ => rfl⟩ | exact fun _ _ h => h | (intro _ _ h; cases h; done) | exact hsl | exact ⟨hsl, hrow8⟩, ?_⟩; conv => whnf))
          rintro _ rfl
          conv => whnf
          refine ⟨(_, m8), own_end (ct := (IntKind.i64.wrap (ct + 1))) (np := ⟨n7, A7, c7⟩) (r := proS z.n (seqE (IntKind.i64.wrap (ct + 1)))) hI hk ho.1 hz hr hn7 hk7 he hsh hx8 hc8 hs8, ?_⟩
          conv => whnf
          repeat (first | exact trivial | exact fun _ _ h => h | (refine ⟨by first | exact ⟨rfl, rfl, rfl⟩ | rfl | exact ⟨rfl, rfl⟩ | exact ⟨rfl, fun _ _ => rfl⟩ | exact fun _ _ h => h | (intro _ _ h; cases h; done), ?_⟩; conv => whnf))
          try exact ⟨hx8, fun _ _ h => h⟩
        · have he : (proS z.n (seqE (IntKind.i64.wrap (ct + 1)))).e ≠ 0 := ne_of_beq_false he
          refine ⟨(_, m8), own_err (ct := (IntKind.i64.wrap (ct + 1))) (r := proS z.n (seqE (IntKind.i64.wrap (ct + 1)))) hI hk ho.1 hz hr he hx8, ?_⟩
          conv => whnf
          repeat (first | exact trivial | exact fun _ _ h => h | (refine ⟨by first | exact ⟨rfl, rfl, rfl⟩ | rfl | exact ⟨rfl, rfl⟩ | exact ⟨rfl, fun _ _ => rfl⟩ | exact fun _ _ h => h | (intro _ _ h; cases h; done), ?_⟩; conv => whnf))
          try exact ⟨hx8, fun _ _ h => h⟩
      have hk5 : ¬ kind = 5 := by simpa using hk5
      conv => whnf
      refine ⟨fun hk6 => ?_, fun hk6 => ?_⟩
      · have hk6 : kind = 6 := by simpa using hk6
        conv => whnf
        refine Or.inl (Or.inr ⟨[], sc41_24, by kernel_rfl, ?_⟩)
        conv => whnf
        refine ⟨⟨who, (ns.length : Int), z.n.log, z.A, z.c, m⟩, ⟨hzm.1, hzl⟩, ?_⟩
        conv => whnf
        repeat (first | exact trivial | (refine ⟨by first | exact ⟨rfl, rfl, rfl⟩ | rfl | exact ⟨rfl, rfl⟩ | exact ⟨rfl, fun _ _ => rfl⟩ | exact fun _ _ h => h | (intro _ _ h; cases h; done), ?_⟩; conv => whnf))
        rintro ⟨n7, A7, c7, m7⟩ ⟨hn7, ⟨hc7, hle7⟩, hx7⟩ m8 h28 h78
        have hc8 : Cells m8 A7 (itemsV n7.log.items) ∧ n7.log.items.length ≤ c7 := ⟨hc7.ext h78, hle7⟩
        have ho8 : Cells m8 none (saidV []) := Cells.nil _ _
        have hs8 : Said m8 [] := fun _ h => by cases h
        have hx8 : ∀ b o, m b = some o → m8 b = some o := h28
        have hk7 : ([] : List OMsg).map (·.k) = (newR who (ns.length : Int) z.n.log).ks := (newR_ks _ _ _).symm
        have hn7 : n7 = (newR who (ns.length : Int) z.n.log).n := hn7
        conv => whnf
        repeat (first | exact trivial | (refine ⟨by first | exact ⟨rfl, rfl, rfl⟩ | rfl | exact ⟨rfl, rfl⟩ | exact ⟨rfl, fun _ _ => rfl⟩ | exact fun _ _ h => h | (intro _ _ h; cases h; done), ?_⟩; conv => whnf))
        have hr : ownW (Wld.abs ⟨ns, us, ts, ls, su, si, ct⟩) ⟨kind, who, i⟩ z.n = turnW (Wld.abs ⟨ns, us, ts, ls, su, si, ct⟩) who.toNat (newR who (ns.length : Int) z.n.log) := by
          unfold ownW; rw [if_neg hk3, if_neg hk4, if_neg hk5, if_pos hk6]
          show turnW _ _ (newR who ((ns.map (·.n)).length : Int) z.n.log) = _
          rw [List.length_map]
        refine ⟨fun he => ?_, fun he => ?_⟩
        · have he : (newR who (ns.length : Int) z.n.log).e = 0 := eq_of_beq he
          conv => whnf
          refine Or.inl (Or.inl ?_)
          conv => whnf
          refine ⟨by kernel_rfl, ?_⟩
          conv => whnf
          refine ⟨⟨ho.1, ho.2, Nat.le_refl _⟩, ?_⟩
          conv => whnf
          refine ⟨⟨np_le hz, rfl⟩, ?_⟩
          conv => whnf
          have hsl : ns.length = (ns.set who.toNat ⟨n7, A7, c7⟩).length := by rw [List.length_set]
          have hrow8 := nps_set (np := ⟨n7, A7, c7⟩) hz
          have hsh : Short (newR who (ns.length : Int) z.n.log).ks := (by rw [newR_ks]; exact Short.nil)
          have hol7 : (([] : List OMsg)).length < 2 ^ 62 := by have := hsh.l; rw [← hk7, List.length_map] at this; omega
          refine ⟨⟨⟨ns.set who.toNat ⟨n7, A7, c7⟩, us, ts, ls, su, si, ct⟩, ([] : List OMsg), none, 0, m8⟩, ⟨ho8, hol7, hm.u⟩, ?_⟩
          conv => whnf
          repeat (first | exact trivial | (refine ⟨by first | exact ⟨rfl, rfl, rfl⟩ | rfl | exact ⟨rfl, rfl⟩ | exact ⟨rfl, fun _ _ => rfl⟩ | exact fun _ _ h => h | (intro _ _ h; cases h; done) | exact hsl | exact ⟨hsl, hrow8⟩, ?_⟩; conv => whnf))
          rintro _ rfl
          conv => whnf
          refine ⟨(_, m8), own_end (ct := ct) (np := ⟨n7, A7, c7⟩) (r := newR who (ns.length : Int) z.n.log) hI hk ho.1 hz hr hn7 hk7 he hsh hx8 hc8 hs8, ?_⟩
          conv => whnf
          repeat (first | exact trivial | exact fun _ _ h => h | (refine ⟨by first | exact ⟨rfl, rfl, rfl⟩ | rfl | exact ⟨rfl, rfl⟩ | exact ⟨rfl, fun _ _ => rfl⟩ | exact fun _ _ h => h | (intro _ _ h; cases h; done), ?_⟩; conv => whnf))
          try exact ⟨hx8, fun _ _ h => h⟩
        · have he : (newR who (ns.length : Int) z.n.log).e ≠ 0 := ne_of_beq_false he
          refine ⟨(_, m8), own_err (ct := ct) (r := newR who (ns.length : Int) z.n.log) hI hk ho.1 hz hr he hx8, ?_⟩
          conv => whnf
          repeat (first | exact trivial | exact fun _ _ h => h | (refine ⟨by first | exact ⟨rfl, rfl, rfl⟩ | rfl | exact ⟨rfl, rfl⟩ | exact ⟨rfl, fun _ _ => rfl⟩ | exact fun _ _ h => h | (intro _ _ h; cases h; done), ?_⟩; conv => whnf))
          try exact ⟨hx8, fun _ _ h => h⟩
      have hk6 : ¬ kind = 6 := by simpa using hk6
      conv => whnf
      refine ⟨fun hk7' => ?_, fun hk7' => ?_⟩
      · have hk7' : kind = 7 := by simpa using hk7'
        conv => whnf
        refine ⟨⟨z.n, z.A, z.c, i, bB, m⟩, ⟨hzm.1, hzm.2, hzl⟩, ?_⟩
        conv => whnf
        repeat (first | exact trivial | (refine ⟨by first | exact ⟨rfl, rfl, rfl⟩ | rfl | exact ⟨rfl, rfl⟩ | exact ⟨rfl, fun _ _ => rfl⟩ | exact fun _ _ h => h | (intro _ _ h; cases h; done), ?_⟩; conv => whnf))
        rintro ⟨n7, A7, c7, m7⟩ ⟨hn7, ⟨hc7, hle7⟩, hx7⟩ m8 h28 h78
        have hc8 : Cells m8 A7 (itemsV n7.log.items) ∧ n7.log.items.length ≤ c7 := ⟨hc7.ext h78, hle7⟩
        have ho8 : Cells m8 none (saidV []) := Cells.nil _ _
        have hs8 : Said m8 [] := fun _ h => by cases h
        have hx8 : ∀ b o, m b = some o → m8 b = some o := h28
        have hk7 : ([] : List OMsg).map (·.k) = (compactR z.n i bB).ks := (compactR_ks _ _ _).symm
        have hn7 : n7 = (compactR z.n i bB).n := hn7
        conv => whnf
        repeat (first | exact trivial | (refine ⟨by first | exact ⟨rfl, rfl, rfl⟩ | rfl | exact ⟨rfl, rfl⟩ | exact ⟨rfl, fun _ _ => rfl⟩ | exact fun _ _ h => h | (intro _ _ h; cases h; done), ?_⟩; conv => whnf))
        have hr : ownW (Wld.abs ⟨ns, us, ts, ls, su, si, ct⟩) ⟨kind, who, i⟩ z.n = turnW (Wld.abs ⟨ns, us, ts, ls, su, si, ct⟩) who.toNat (compactR z.n i bB) := by unfold ownW; rw [if_neg hk3, if_neg hk4, if_neg hk5, if_neg hk6, if_pos hk7']
        refine ⟨fun he => ?_, fun he => ?_⟩
        · have he : (compactR z.n i bB).e = 0 := eq_of_beq he
          conv => whnf
          refine Or.inl (Or.inl ?_)
          conv => whnf
          refine ⟨by kernel_rfl, ?_⟩
          conv => whnf
          refine ⟨⟨ho.1, ho.2, Nat.le_refl _⟩, ?_⟩
          conv => whnf
          refine ⟨⟨np_le hz, rfl⟩, ?_⟩
          conv => whnf
          have hsl : ns.length = (ns.set who.toNat ⟨n7, A7, c7⟩).length := by rw [List.length_set]
          have hrow8 := nps_set (np := ⟨n7, A7, c7⟩) hz
          have hsh : Short (compactR z.n i bB).ks := (by rw [compactR_ks]; exact Short.nil)
          have hol7 : (([] : List OMsg)).length < 2 ^ 62 := by have := hsh.l; rw [← hk7, List.length_map] at this; omega
          refine ⟨⟨⟨ns.set who.toNat ⟨n7, A7, c7⟩, us, ts, ls, su, si, ct⟩, ([] : List OMsg), none, 0, m8⟩, ⟨ho8, hol7, hm.u⟩, ?_⟩
          conv => whnf
          repeat (first | exact trivial | (refine ⟨by first | exact ⟨rfl, rfl, rfl⟩ | rfl | exact ⟨rfl, rfl⟩ | exact ⟨rfl, fun _ _ => rfl⟩ | exact fun _ _ h => h | (intro _ _ h; cases h; done) | exact hsl | exact ⟨hsl, hrow8⟩, ?_⟩; conv => whnf))
          rintro _ rfl
          conv => whnf
          refine ⟨(_, m8), own_end (ct := ct) (np := ⟨n7, A7, c7⟩) (r := compactR z.n i bB) hI hk ho.1 hz hr hn7 hk7 he hsh hx8 hc8 hs8, ?_⟩
          conv => whnf
          repeat (first | exact trivial | exact fun _ _ h => h | (refine ⟨by first | exact ⟨rfl, rfl, rfl⟩ | rfl | exact ⟨rfl, rfl⟩ | exact ⟨rfl, fun _ _ => rfl⟩ | exact fun _ _ h => h | (intro _ _ h; cases h; done), ?_⟩; conv => whnf))
          try exact ⟨hx8, fun _ _ h => h⟩
        · have he : (compactR z.n i bB).e ≠ 0 := ne_of_beq_false he
          refine ⟨(_, m8), own_err (ct := ct) (r := compactR z.n i bB) hI hk ho.1 hz hr he hx8, ?_⟩
          conv => whnf
          repeat (first | exact trivial | exact fun _ _ h => h | (refine ⟨by first | exact ⟨rfl, rfl, rfl⟩ | rfl | exact ⟨rfl, rfl⟩ | exact ⟨rfl, fun _ _ => rfl⟩ | exact fun _ _ h => h | (intro _ _ h; cases h; done), ?_⟩; conv => whnf))
          try exact ⟨hx8, fun _ _ h => h⟩
      have hk7' : ¬ kind = 7 := by simpa using hk7'
      conv => whnf
      have hc8 : Cells m z.A (itemsV z.n.log.items) ∧ z.n.log.items.length ≤ z.c := hzm
      have ho8 : Cells m none (saidV []) := Cells.nil _ _
      have hs8 : Said m [] := fun _ h => by cases h
      have hx8 : ∀ b o, m b = some o → m b = some o := fun _ _ h => h
      have hk7 : ([] : List OMsg).map (·.k) = (⟨z.n, [], 0⟩ : StepR).ks := rfl
      have hn7 : z.n = (⟨z.n, [], 0⟩ : StepR).n := rfl
      have hr : ownW (Wld.abs ⟨ns, us, ts, ls, su, si, ct⟩) ⟨kind, who, i⟩ z.n = turnW (Wld.abs ⟨ns, us, ts, ls, su, si, ct⟩) who.toNat ⟨z.n, [], 0⟩ := by unfold ownW; rw [if_neg hk3, if_neg hk4, if_neg hk5, if_neg hk6, if_neg hk7']
      refine ⟨fun he => ?_, fun he => ?_⟩
      · have he : ((⟨z.n, [], 0⟩ : StepR)).e = 0 := eq_of_beq he
        conv => whnf
        refine Or.inl (Or.inl ?_)
        conv => whnf
        refine ⟨by kernel_rfl, ?_⟩
        conv => whnf
        refine ⟨⟨ho.1, ho.2, Nat.le_refl _⟩, ?_⟩
        conv => whnf
        refine ⟨⟨np_le hz, rfl⟩, ?_⟩
        conv => whnf
        have hsl : ns.length = (ns.set who.toNat ⟨z.n, z.A, z.c⟩).length := by rw [List.length_set]
        have hrow8 := nps_set (np := ⟨z.n, z.A, z.c⟩) hz
        have hsh : Short ((⟨z.n, [], 0⟩ : StepR)).ks := Short.nil
        have hol7 : (([] : List OMsg)).length < 2 ^ 62 := by have := hsh.l; rw [← hk7, List.length_map] at this; omega
        refine ⟨⟨⟨ns.set who.toNat ⟨z.n, z.A, z.c⟩, us, ts, ls, su, si, ct⟩, ([] : List OMsg), none, 0, m⟩, ⟨ho8, hol7, hm.u⟩, ?_⟩
        conv => whnf
        repeat (first | exact trivial | (refine ⟨by first | exact ⟨rfl, rfl, rfl⟩ | rfl | exact ⟨rfl, rfl⟩ | exact ⟨rfl, fun _ _ => rfl⟩ | exact fun _ _ h => h | (intro _ _ h; cases h; done) | exact hsl | exact ⟨hsl, hrow8⟩, ?_⟩; conv => whnf))
        rintro _ rfl
        conv => whnf
        refine ⟨(_, m), own_end (ct := ct) (np := ⟨z.n, z.A, z.c⟩) (r := (⟨z.n, [], 0⟩ : StepR)) hI hk ho.1 hz hr hn7 hk7 he hsh hx8 hc8 hs8, ?_⟩
        conv => whnf
        repeat (first | exact trivial | exact fun _ _ h => h | (refine ⟨by first | exact ⟨rfl, rfl, rfl⟩ | rfl | exact ⟨rfl, rfl⟩ | exact ⟨rfl, fun _ _ => rfl⟩ | exact fun _ _ h => h | (intro _ _ h; cases h; done), ?_⟩; conv => whnf))
        try exact ⟨hx8, fun _ _ h => h⟩
      · have he : ((⟨z.n, [], 0⟩ : StepR)).e ≠ 0 := ne_of_beq_false he
        refine ⟨(_, m), own_err (ct := ct) (r := (⟨z.n, [], 0⟩ : StepR)) hI hk ho.1 hz hr he hx8, ?_⟩
        conv => whnf
        repeat (first | exact trivial | exact fun _ _ h => h | (refine ⟨by first | exact ⟨rfl, rfl, rfl⟩ | rfl | exact ⟨rfl, rfl⟩ | exact ⟨rfl, fun _ _ => rfl⟩ | exact fun _ _ h => h | (intro _ _ h; cases h; done), ?_⟩; conv => whnf))
        try exact ⟨hx8, fun _ _ h => h⟩
end Go.Proofs.Ytjpjiniclibgkaa.Sx

namespace Go.Proofs.Ytjpjiniclibgkaa.Sx
open Go Safe

/-- What is known of a world's nodes when it is looked at. -/
structure Looked (sz : Nat) (g : Gh Item) (Fs : Nat → List Item) (ns : List NP) : Prop where
  len : ns.length = sz
  here : ∀ v z, ns[v]? = some z → Here sz g v z.n (Fs v)
  lenF : ∀ v, v < sz → (Fs v).length ≤ 1000
structure ComG where
  y : Wld
  m : Mem
  sz : Nat
  g : Gh Item
  Fs : Nat → List Item
def comSpec : Spec where
  A := ComG
  R := fun ⟨y, m, sz, g, Fs⟩ => InM m y ∧ Looked sz g Fs y.ns ∧ Seen sz g y.su y.si ∧ y.su.length ≤ 1000 ∧ ∀ z ∈ y.ns, z.n.log.base.toNat ≤ y.su.length
  J := fun ⟨_, m, _, _, _⟩ => m
  args := fun _ => [.p 0 0]
  h := fun ⟨y, _, _, _, _⟩ => worldH 1 2 3 4 5 6 y
  nx := 7
  Bb := List Item × List Int
  C := fun ⟨y, _, sz, g, _⟩ ⟨su, si⟩ => Seen sz g su si ∧ su.length ≤ 1000 ∧ y.su.length ≤ su.length ∧ ∀ z ∈ y.ns, z.n.commit.toNat ≤ su.length
  out := fun _ _ => .ret (.b true)
  h2 := fun ⟨y, _, _, _, _⟩ ⟨su, si⟩ => worldH 7 8 9 10 11 12 { y with su := su, si := si }
  nx2 := 13
theorem row_at {xs : List Item} {i j : Nat} {x : Item} (hj : j = i) (h : xs[i]? = some x) : itemV x = ((itemsV xs).drop (j * 6)).take 6 := by
  subst hj
  have hd : xs.drop j = x :: xs.drop (j + 1) := by
    rw [List.drop_eq_getElem_cons (List.getElem?_eq_some_iff.1 h).1, (List.getElem?_eq_some_iff.1 h).2]
  rw [itemsV_drop, hd]
  rfl
theorem row_le {xs : List Item} {i j : Nat} {x : Item} (hj : j = i) (h : xs[i]? = some x) : j * 6 + 6 ≤ (itemsV xs).length := by
  subst hj
  have := (List.getElem?_eq_some_iff.1 h).1
  rw [itemsV_len]; omega
theorem sure_row {su : List Item} {x y : Item} (h : y = x) : su.length + 1 = (su ++ [x]).length ∧ (itemsV su).take (su.length * 6) ++ (dens η0 (itemC y)).take (1 * 6) = itemsV (su ++ [x]) := by
  subst h
  refine ⟨by rw [List.length_append]; rfl, ?_⟩
  rw [itemsV_append, List.take_of_length_le (by rw [itemsV_len]; omega)]
  have h2 : itemsV [y] = itemV y := by simp [itemsV]
  rw [h2]; rfl
theorem since_row {si : List Int} {t : Int} : si.length + 1 = (si ++ [t]).length ∧ (intsV si).take (si.length * 1) ++ (dens η0 [.i .i64 t]).take (1 * 1) = intsV (si ++ [t]) := by
  refine ⟨by rw [List.length_append]; rfl, ?_⟩
  rw [List.take_of_length_le (by rw [intsV_len]; omega)]
  simp [intsV, dens, pc, den]
end Go.Proofs.Ytjpjiniclibgkaa.Sx

namespace Go.Proofs.Ytjpjiniclibgkaa.Sx
open Go Safe

/-- The leaders that were seen. -/
def Led (g : Gh Item) (ts ls : List Int) : Prop := ts.length = ls.length ∧ ∀ (k : Nat) (t : Int), ts[k]? = some t → ∃ v : Nat, ls[k]? = some (v : Int) ∧ g.ld t = some v
section
variable {sz K S : Nat} {g g' : Gh Item} {ts ls : List Int}
theorem Led.grow (h : Led g ts ls) (hl : ∀ t c, g.ld t = some c → g'.ld t = some c) : Led g' ts ls := ⟨h.1, fun k t hk => by
  obtain ⟨v, h1, h2⟩ := h.2 k t hk
  exact ⟨v, h1, hl _ _ h2⟩⟩
theorem Led.same (h : Led g ts ls) {k v : Nat} {t : Int} (hk : ts[k]? = some t) (hv : g.ld t = some v) : ls[k]? = some (v : Int) := by
  obtain ⟨u, h1, h2⟩ := h.2 k t hk
  rw [hv] at h2
  cases h2
  exact h1
theorem Led.push (h : Led g ts ls) {v : Nat} {t : Int} (hv : g.ld t = some v) : Led g (ts ++ [t]) (ls ++ [(v : Int)]) := by
  refine ⟨by rw [List.length_append, List.length_append, h.1]; rfl, fun k u hk => ?_⟩
  by_cases hl : k < ts.length
  · rw [List.getElem?_append_left hl] at hk
    rw [List.getElem?_append_left (by rw [← h.1]; exact hl)]
    exact h.2 k u hk
  · rw [List.getElem?_append_right (by omega)] at hk
    have h1 := (List.getElem?_eq_some_iff.1 hk).1
    have h2 : [t].length = 1 := rfl
    have h0 : k - ts.length = 0 := by omega
    rw [h0] at hk
    cases hk
    refine ⟨v, ?_, hv⟩
    rw [List.getElem?_append_right (by rw [← h.1]; omega), ← h.1, h0]
    rfl
/-- What is true of a world between its moves. -/
structure Inv (sz K S : Nat) (g : Gh Item) (nf : Nat → Node) (Fs : Nat → List Item) (w : WA) : Prop where
  len : w.ns.length = sz
  same : ∀ v n, w.ns[v]? = some n → nf v = n
  wi : WI sz K g nf Fs w.us S
  seen : Seen sz g w.su w.si
  led : Led g w.ts w.ls
  ul : w.us.length ≤ 256
theorem Inv.here {nf : Nat → Node} {Fs : Nat → List Item} {w : WA} (h : Inv sz K S g nf Fs w) {v : Nat} {n : Node} (hn : w.ns[v]? = some n) : v < sz ∧ Here sz g v n (Fs v) := by
  have hv : v < sz := by rw [← h.len]; exact (List.getElem?_eq_some_iff.1 hn).1
  have := h.wi.here hv
  rw [h.same v n hn] at this
  exact ⟨hv, this⟩
/-- A world of which something under way is lost. -/
theorem Inv.less {nf : Nat → Node} {Fs : Nat → List Item} {w w' : WA} (h : Inv sz K S g nf Fs w) (h1 : w'.ns = w.ns) (h2 : ∀ m ∈ w'.us, m ∈ w.us) (h3 : w'.us.length ≤ 256) (h4 : w'.ts = w.ts) (h5 : w'.ls = w.ls) (h6 : w'.su = w.su) (h7 : w'.si = w.si) {K' : Nat} (hK : K ≤ K') : Inv sz K' S g nf Fs w' := by
  refine ⟨by rw [h1]; exact h.len, by rw [h1]; exact h.same, h.wi.less h2 (Nat.le_refl _) hK, by rw [h6, h7]; exact h.seen, by rw [h4, h5]; exact h.led, h3⟩
theorem Inv.turn {nf : Nat → Node} {Fs : Nat → List Item} {w w' : WA} (h : Inv sz K S g nf Fs w) (h1 : w'.ns = w.ns) (h2 : ∀ m ∈ w'.us, m ∈ w.us) (h3 : w'.us.length ≤ 256) (h4 : w'.ts = w.ts) (h5 : w'.ls = w.ls) (h6 : w'.su = w.su) (h7 : w'.si = w.si)
    {v : Nat} {n : Node} (hn : w.ns[v]? = some n) {r : StepR} (hw : r.e = 0 → Went sz g v n (Fs v) (fun v => (nf v).log.term) S r.n r.ks) : ∃ g' nf' Fs', Inv sz (K + 1) S g' nf' Fs' (turnW w' v r) := by
  by_cases he : r.e = 0
  · have hv := (h.here hn).1
    have hwent := hw he
    rw [← h.same v n hn] at hwent
    have hmv := h.wi.move hv hwent (under' := w'.us ++ r.ks.take (256 - w'.us.length)) fun m hm => by
      rcases List.mem_append.1 hm with hm | hm
      · exact .inl (h2 m hm)
      · exact .inr (List.mem_of_mem_take hm)
    obtain ⟨g', F', hi, hs, hl⟩ := hmv
    have e : turnW w' v r = { w' with ns := w'.ns.set v r.n, us := w'.us ++ r.ks.take (256 - w'.us.length) } := if_pos he
    rw [e]
    refine ⟨g', upd nf v r.n, upd Fs v F', ⟨?_, fun u x hx => ?_, ?_, ?_, ?_, ?_⟩⟩
    · show (w'.ns.set v r.n).length = sz
      rw [List.length_set, h1]; exact h.len
    · have hx : (w'.ns.set v r.n)[u]? = some x := hx
      by_cases huv : u = v
      · subst huv
        rw [List.getElem?_set_self (by rw [h1]; exact (List.getElem?_eq_some_iff.1 hn).1)] at hx
        cases hx
        exact upd_self _ _ _
      · rw [List.getElem?_set_ne (fun h => huv h.symm), h1] at hx
        rw [upd_other _ _ huv]
        exact h.same u x hx
    · exact hi
    · show Seen sz g' w'.su w'.si
      rw [h6, h7]; exact hs _ _ h.seen
    · show Led g' w'.ts w'.ls
      rw [h4, h5]; exact h.led.grow hl
    · show (w'.us ++ r.ks.take (256 - w'.us.length)).length ≤ 256
      rw [List.length_append, List.length_take]; omega
  · have e : turnW w' v r = w' := if_neg he
    rw [e]
    exact ⟨g, nf, Fs, h.less h1 h2 h3 h4 h5 h6 h7 (Nat.le_succ _)⟩
theorem Inv.own {nf : Nat → Node} {Fs : Nat → List Item} {w : WA} (h : Inv sz K S g nf Fs w) {v : Nat} {n : Node} (hn : w.ns[v]? = some n) {r : StepR} (hw : r.e = 0 → Went sz g v n (Fs v) (fun v => (nf v).log.term) S r.n r.ks) : ∃ g' nf' Fs', Inv sz (K + 1) S g' nf' Fs' (turnW w v r) :=
  h.turn rfl (fun _ hm => hm) h.ul rfl rfl rfl rfl hn hw
theorem lessW_mem {w : WA} {x : MoveV} : ∀ m ∈ (lessW w x).us, m ∈ w.us := by
  unfold lessW
  split
  · exact fun _ h => h
  · exact fun m h => List.mem_of_mem_eraseIdx h
theorem lessW_len {w : WA} {x : MoveV} : (lessW w x).us.length ≤ w.us.length := by
  unfold lessW
  split
  · exact Nat.le_refl _
  · exact List.length_eraseIdx_le _ _
theorem lessW_same {w : WA} {x : MoveV} : (lessW w x).ns = w.ns ∧ (lessW w x).ts = w.ts ∧ (lessW w x).ls = w.ls ∧ (lessW w x).su = w.su ∧ (lessW w x).si = w.si := by
  unfold lessW
  split
  · exact ⟨rfl, rfl, rfl, rfl, rfl⟩
  · exact ⟨rfl, rfl, rfl, rfl, rfl⟩
/-- A move keeps what is true of a world. -/
theorem Inv.moved {nf : Nat → Node} {Fs : Nat → List Item} {w : WA} (h : Inv sz K S g nf Fs w) (hc : ∀ n ∈ w.ns, n.commit.toNat ≤ S) (hK : K ≤ 1000) (x : MoveV) : ∃ g' nf' Fs', Inv sz (K + 1) S g' nf' Fs' (moveW w x) := by
  have hsame : ∃ g' nf' Fs', Inv sz (K + 1) S g' nf' Fs' w := ⟨g, nf, Fs, h.less rfl (fun _ hm => hm) h.ul rfl rfl rfl rfl (Nat.le_succ _)⟩
  have hl2 : (lessW w x).us.length ≤ 256 := Nat.le_trans lessW_len h.ul
  obtain ⟨l1, l4, l5, l6, l7⟩ := lessW_same (w := w) (x := x)
  have hless : ∃ g' nf' Fs', Inv sz (K + 1) S g' nf' Fs' (lessW w x) := ⟨g, nf, Fs, h.less l1 lessW_mem hl2 l4 l5 l6 l7 (Nat.le_succ _)⟩
  unfold moveW
  split
  · split
    · exact hsame
    · split
      · rename_i k hk
        unfold hearW
        split
        · exact hless
        · split
          · rename_i n hn
            have hmok := h.wi.ms k (List.mem_of_getElem? hk)
            obtain ⟨hv, hh⟩ := h.here hn
            have hb := h.wi.base _ hv
            rw [h.same _ _ hn] at hb
            exact h.turn l1 lessW_mem hl2 l4 l5 l6 l7 hn fun he => hh.step hmok hb he
          · exact hless
      · exact hsame
  · split
    · exact hsame
    · split
      · rename_i n hn
        obtain ⟨hv, hh⟩ := h.here hn
        have hb := h.wi.base _ hv
        rw [h.same _ _ hn] at hb
        have hF : (Fs x.who.toNat).length ≤ 1000 := Nat.le_trans (h.wi.lenF _ hv) hK
        have hcn := hc n (List.mem_of_getElem? hn)
        unfold ownW
        split
        · exact h.own hn fun _ => hh.timeout hb
        split
        · exact h.own hn fun _ => hh.beat hb
        split
        · exact h.turn (w' := { w with ct := IntKind.i64.wrap (w.ct + 1) }) (r := proS n (seqE (IntKind.i64.wrap (w.ct + 1)))) rfl (fun _ hm => hm) h.ul rfl rfl rfl rfl hn fun he => hh.propose hb (e := seqE (IntKind.i64.wrap (w.ct + 1))) he
        split
        · refine h.own hn fun he => ?_
          have e1 : x.who = n.me := by rw [hh.me]; omega
          have e2 : ((w.ns.length : Nat) : Int) = n.size := by rw [hh.size, h.len]
          have e3 : newR x.who ((w.ns.length : Nat) : Int) n.log = newR n.me n.size n.log := by rw [e2, ← e1]
          rw [newR_ks]
          rw [e3] at he ⊢
          exact hh.new hb he
        split
        · refine h.own hn fun he => ?_
          rw [compactR_ks]
          exact hh.compact hF hcn he
        · exact h.own hn fun _ => Went.still hh hb fun _ _ m hm => by cases hm
      · exact hsame
/-- What is seen of a world whose commits and leaders are told. -/
theorem Inv.told {nf : Nat → Node} {Fs : Nat → List Item} {w : WA} (h : Inv sz K S g nf Fs w) {ts ls : List Int} {su : List Item} {si : List Int} (hl : Led g ts ls) (hs : Seen sz g su si) {S' : Nat} (hle : S ≤ S') : Inv sz K S' g nf Fs { w with ts := ts, ls := ls, su := su, si := si } :=
  ⟨h.len, h.same, h.wi.less (fun _ hm => hm) hle (Nat.le_refl _), hs, hl, h.ul⟩
theorem Inv.looked {nf : Nat → Node} {Fs : Nat → List Item} {y : Wld} (h : Inv sz K S g nf Fs y.abs) (hK : K ≤ 1000) : Looked sz g Fs y.ns := by
  refine ⟨?_, fun v z hz => ?_, fun v hv => Nat.le_trans (h.wi.lenF v hv) hK⟩
  · have := h.len
    rwa [show y.abs.ns = y.ns.map (·.n) from rfl, List.length_map] at this
  · have : y.abs.ns[v]? = some z.n := by show (y.ns.map (·.n))[v]? = _; rw [List.getElem?_map, hz]; rfl
    exact (h.here this).2
theorem Inv.low {nf : Nat → Node} {Fs : Nat → List Item} {y : Wld} (h : Inv sz K S g nf Fs y.abs) : ∀ z ∈ y.ns, z.n.log.base.toNat ≤ S := by
  intro z hz
  obtain ⟨v, hv⟩ := List.getElem?_of_mem hz
  have hn : y.abs.ns[v]? = some z.n := by show (y.ns.map (·.n))[v]? = _; rw [List.getElem?_map, hv]; rfl
  have := h.wi.base v (h.here hn).1
  rwa [h.same v z.n hn] at this
theorem Inv.mild {nf : Nat → Node} {Fs : Nat → List Item} {y : Wld} (h : Inv sz K S g nf Fs y.abs) (h7 : sz ≤ 7) : Mild y := by
  have hlen : y.ns.length = sz := by
    have := h.len
    rwa [show y.abs.ns = y.ns.map (·.n) from rfl, List.length_map] at this
  refine ⟨fun z hz => ?_, fun o ho => ?_, ?_, by omega⟩
  · obtain ⟨v, hv⟩ := List.getElem?_of_mem hz
    have hn : y.abs.ns[v]? = some z.n := by show (y.ns.map (·.n))[v]? = _; rw [List.getElem?_map, hv]; rfl
    exact Nat.lt_of_le_of_lt (h.here hn).2.fine.l (by decide)
  · have hm := h.wi.ms o.k (List.mem_map_of_mem (f := (·.k)) ho)
    have h1 := hm.t1; have h2 := hm.t2
    exact ⟨h1, by omega⟩
  · have := h.ul
    rwa [show y.abs.us = y.us.map (·.k) from rfl, List.length_map] at this
end
end Go.Proofs.Ytjpjiniclibgkaa.Sx
