/- The world of nodes: who leads, walked. Then: The moves of a statement's arguments, opened. RaftSafe, walked. A leader that loses nothing: a follower hears it, as it is thought of. A leader that loses nothing: what it says and hears, as it is thought of. A leader that loses nothing: what is under way is heard, one by one. A leader that loses nothing: until nothing is under way. A leader that loses nothing: how it begins, what is proposed to it, how it beats; what is then true of all. -/
import Derived.Test.YtjpjiniclibgkaaMoveJ
import Derived.Test.YtjpjiniclibgkaaSafeG
namespace Go.Proofs.Ytjpjiniclibgkaa.Sx
open Go Safe

def leadsSpec : Spec where
  A := ComG
  R := fun ⟨y, m, sz, g, Fs⟩ => InM m y ∧ Looked sz g Fs y.ns ∧ Seen sz g y.su y.si ∧ y.su.length ≤ 1000 ∧ Led g y.ts y.ls ∧ y.ts.length ≤ 10000
  J := fun ⟨_, m, _, _, _⟩ => m
  args := fun _ => [.p 0 0]
  h := fun ⟨y, _, _, _, _⟩ => worldH 1 2 3 4 5 6 y
  nx := 7
  Bb := List Int × List Int
  C := fun ⟨y, _, _, g, _⟩ ⟨ts, ls⟩ => Led g ts ls ∧ ts.length ≤ y.ts.length + y.ns.length
  out := fun _ _ => .ret (.b true)
  h2 := fun ⟨y, _, _, _, _⟩ ⟨ts, ls⟩ => worldH 7 8 9 10 11 12 { y with ts := ts, ls := ls }
  nx2 := 13
theorem int_at {xs : List Int} {i : Nat} {t : Int} (h : xs[i]? = some t) : i * 1 + 1 ≤ (intsV xs).length ∧ [Value.int .i64 t] = ((intsV xs).drop (i * 1)).take 1 := by
  have hi := (List.getElem?_eq_some_iff.1 h).1
  refine ⟨by rw [intsV_len]; omega, ?_⟩
  have hd : xs.drop i = t :: xs.drop (i + 1) := by
    rw [List.drop_eq_getElem_cons hi, (List.getElem?_eq_some_iff.1 h).2]
  unfold intsV
  rw [Nat.mul_one, ← List.map_drop, hd]
  rfl
theorem getInt {xs : List Int} {i : Nat} (h : i < xs.length) : ∃ t, xs[i]? = some t := ⟨_, List.getElem?_eq_getElem h⟩
end Go.Proofs.Ytjpjiniclibgkaa.Sx

namespace Go.Proofs.Ytjpjiniclibgkaa.Sx
open Go Go.ChangeShapes Go.WideShapes Go.RowKit

def moveV (x : MoveV) : List Value := [.int .i64 x.kind, .int .i64 x.who, .int .i64 x.i]
def movesV (xs : List MoveV) : List Value := xs.flatMap moveV
theorem movesV_len (xs : List MoveV) : (movesV xs).length = xs.length * 3 := by
  induction xs with
  | nil => rfl
  | cons x xs ih => show ((moveV x) ++ movesV xs).length = _; rw [List.length_append, ih, List.length_cons]; show 3 + _ = _; omega
theorem movesV_drop (xs : List MoveV) : ∀ k, (movesV xs).drop (k * 3) = movesV (xs.drop k) := by
  induction xs with
  | nil => intro k; simp [movesV]
  | cons x xs ih =>
    intro k
    match k with
    | 0 => rfl
    | k + 1 =>
      have e : (k + 1) * 3 = k * 3 + 3 := by omega
      rw [e]
      show (moveV x ++ movesV xs).drop (k * 3 + 3) = _
      rw [Nat.add_comm, ← List.drop_drop]
      exact ih k
theorem move_row {xs : List MoveV} {i : Nat} {x : MoveV} (h : xs[i]? = some x) : i * 3 + 3 ≤ (movesV xs).length ∧ ((movesV xs).drop (i * 3)).take 3 = moveV x := by
  have hi := (List.getElem?_eq_some_iff.1 h).1
  refine ⟨by rw [movesV_len]; omega, ?_⟩
  have hd : xs.drop i = x :: xs.drop (i + 1) := by
    rw [List.drop_eq_getElem_cons hi, (List.getElem?_eq_some_iff.1 h).2]
  rw [movesV_drop, hd]
  rfl
theorem movesV_get {xs : List MoveV} {i : Nat} {y : MoveV} (h : xs[i]? = some y) {o : Nat} (ho : o < 3) : (movesV xs)[i * 3 + o]? = (moveV y)[o]? := by
  have := congrArg (fun l => l[o]?) (move_row h).2
  simp only [List.getElem?_take, List.getElem?_drop, ho, if_true] at this
  exact this
theorem cells64 : Try.prog.cellsOf 64 = 1 := by kernel_rfl
theorem cells70 : Try.prog.cellsOf 70 = 3 := by kernel_rfl
theorem und64 : Try.prog.underlying 64 = some (.slice 70) := by kernel_rfl
theorem und70 : Try.prog.underlying 70 = some (.struct fs70) := by kernel_rfl
theorem bytes70 : Try.prog.bytesOf 70 = 24 := by kernel_rfl
section
variable {H : Type} {enc : TypeId × Value → H} {W : World} {fuel : Nat} {cs : List Value} {x : DataW H × List MemPlace}
theorem open_move (h : DataW.trod enc Try.prog W 0 (fun _ => true) true fuel 70 cs = some x) : ∃ y : MoveV, cs = moveV y := by
  obtain ⟨hl, n, ds, _, _, hf⟩ := field_of und70 h
  rw [cells70] at hl
  obtain ⟨_, h0, _⟩ := hf 0 _ 0 1 rfl rfl cells3
  obtain ⟨_, h1, _⟩ := hf 1 _ 1 1 rfl rfl cells3
  obtain ⟨_, h2, _⟩ := hf 2 _ 2 1 rfl rfl cells3
  obtain ⟨a, ha, _⟩ := int_of h0
  obtain ⟨b, hb, _⟩ := int_of h1
  obtain ⟨c, hc, _⟩ := int_of h2
  refine ⟨⟨a, b, c⟩, ?_⟩
  rw [show cs = cs.drop 0 from rfl, cut cs 0 1, ha, cut cs 1 1, hb, cut cs 2 1, hc, List.drop_eq_nil_of_le (by omega)]
  rfl
theorem open_moves (h : DataW.trod enc Try.prog W 0 (fun _ => true) true fuel 64 cs = some x) (hw : (x.1.weights Try.prog 64).all (· ≤ reachBytes) = true) :
    ∃ (A : Option Addr) (c : Nat) (xs : List MoveV), cs = [.slice A xs.length c] ∧ Cells (allMem W) A (movesV xs) ∧ xs.length ≤ c ∧ xs.length < 2 ^ 62 := by
  rcases Go.Deep.open_slice und64 h with ⟨hcs, _⟩ | ⟨a, len, cap, m, n, D, Pl, hcs, _, hl, hm, hmm, hx, hall⟩
  · exact ⟨none, 0, [], hcs, (fun j v hj => by cases hj), Nat.le_refl _, by decide⟩
  · simp only [if_true] at hmm
    subst hmm
    subst hx
    simp only [DataW.weights, und64, bytes70, List.all_cons, Bool.and_eq_true, decide_eq_true_eq, List.length_map, List.length_range] at hw
    have hb : len < 2 ^ 62 := by have := hw.1; unfold reachBytes at this; omega
    have each : ∀ i, ∃ y : MoveV, i < len → W.cells? 0 (a.add (i * 3)) 3 = some (moveV y) := by
      intro i
      by_cases hi : i < len
      · obtain ⟨cs', h1, h2⟩ := hall i (by omega)
        obtain ⟨y, rfl⟩ := open_move h2
        rw [cells70] at h1
        exact ⟨y, fun _ => h1⟩
      · exact ⟨⟨0, 0, 0⟩, fun h => absurd h hi⟩
    obtain ⟨f, hf⟩ := Classical.axiomOfChoice each
    have hlen : ((List.range len).map f).length = len := by simp
    refine ⟨some a, m, (List.range len).map f, by rw [hlen]; exact hcs, fun j v hj => ⟨a, rfl, ?_⟩, by rw [hlen]; exact hl, by rw [hlen]; exact hb⟩
    have hjl := (List.getElem?_eq_some_iff.1 hj).1
    rw [movesV_len, hlen] at hjl
    obtain ⟨i, o, hio, ho⟩ : ∃ i o, j = i * 3 + o ∧ o < 3 := ⟨j / 3, j % 3, by omega, by omega⟩
    have hi : i < len := by omega
    have hc := hf i hi
    have hcell := (World.cells?_some hc).2.2 o ho
    have hxi : ((List.range len).map f)[i]? = some (f i) := by rw [List.getElem?_map, List.getElem?_range hi]; rfl
    rw [hio, movesV_get hxi ho] at hj
    rw [add_add, ← hio, hj] at hcell
    exact mcell_all hcell (add_spot hcell)
theorem trod_one64 {v : Value} {d : DataW H} {ps : List MemPlace} {base : Nat} (hval : Value.okWide Try.prog W .any base 64 v) (h : DataW.Trod enc Try.prog W 0 (fun _ => true) true 64 v d ps) : ∃ fuel, DataW.trod enc Try.prog W 0 (fun _ => true) true fuel 64 [v] = some (d, ps) := by
  obtain ⟨a, l, c, rfl⟩ := okWide_slice und64 hval
  exact h
end
end Go.Proofs.Ytjpjiniclibgkaa.Sx

namespace Go.Proofs.Ytjpjiniclibgkaa.Sx
open Go Safe

def S30 : List (Nat × Spec) := (41, moveSpec) :: S29
theorem S30_all : ∀ f s, findS S30 f = some s → SpecOk Try.prog f s := CP_cons S29_all move_ok
theorem S30_ok : CPOk Try.prog (CPs S30) := CPs_ok S30_all
theorem mem_move {m : Mem} {A : Option Addr} {xs : List MoveV} {i : Nat} {x : MoveV} (hM : Cells m A (movesV xs)) (h : xs[i]? = some x) : rdM m A (i * 3 + 0) 3 (dens η0 [.i .i64 x.kind, .i .i64 x.who, .i .i64 x.i]) := hM.rd rfl rfl (by decide) (by rw [Nat.add_zero, (move_row h).2]; rfl)
theorem Cells.someV {m : Mem} {A : Option Addr} {xs : List MoveV} {i : Nat} {x : MoveV} (hM : Cells m A (movesV xs)) (h : xs[i]? = some x) : A.isSome = true := by
  have hl := (List.getElem?_eq_some_iff.1 h).1
  obtain ⟨a, ha, _⟩ := hM 0 ((movesV xs)[0]'(by rw [movesV_len]; omega)) (List.getElem?_eq_getElem _)
  rw [ha]; rfl
structure SafeG where
  size : Int
  xs : List MoveV
  B : Option Addr
  c : Nat
  m : Mem
def lawSafeSpec : Spec where
  A := SafeG
  R := fun ⟨_, xs, B, c, m⟩ => Cells m B (movesV xs) ∧ xs.length ≤ c ∧ xs.length < 2 ^ 62
  J := fun ⟨_, _, _, _, m⟩ => m
  args := fun ⟨size, xs, B, c, _⟩ => [.i .i64 size, .sl B xs.length c]
  h := fun _ => []
  nx := 0
  Bb := Unit
  C := fun _ _ => True
  out := fun _ _ => .ret (.b true)
  h2 := fun _ _ => []
  nx2 := 0
theorem ors {a b c : Bool} : (if (if a = true then true else b) = true then true else c) = false → a = false ∧ b = false ∧ c = false := by cases a <;> cases b <;> cases c <;> simp
theorem ands {a b c : Bool} (h : ¬ (a = true ∧ b = true) → c = true) : (if (if a = true then b else false) = true then true else c) = true := by cases a <;> cases b <;> simp_all
/-- A node as it is at the beginning. -/
def newN (v sz : Int) : Node := ⟨v, sz, ⟨0, -1, 0, 0, ByteArray.empty, []⟩, 0, -1, 0, 0, fun _ => 0, fun _ => 0⟩
theorem newR_ok {v sz : Int} (h1 : 0 ≤ v) (h2 : v < sz) (h7 : sz ≤ 7) : newR v sz emptyL = ⟨newN v sz, [], 0⟩ := by
  have hb : newB v sz emptyL = true := by
    unfold newB goodLogB badB emptyL
    simp [chainB, endT]
    omega
  unfold newR
  rw [if_pos hb]
  rfl
theorem newR_bad {sz : Int} (h : ¬ (1 ≤ sz ∧ sz ≤ 7)) : (newR 0 sz emptyL).e = 1 := by
  have hb : ¬ newB 0 sz emptyL = true := fun hb => h (by
    unfold newB at hb
    simp only [Bool.not_eq_true', Bool.or_eq_false_iff, decide_eq_false_iff_not] at hb
    omega)
  unfold newR
  rw [if_neg hb]
/-- The nodes at the beginning, so far. -/
structure Newly (sz : Int) (ns : List NP) (m : Mem) (i : Nat) : Prop where
  len : ns.length = i
  n : ∀ (v : Nat) (z : NP), ns[v]? = some z → z.n = newN (v : Int) sz ∧ Cells m z.A (itemsV z.n.log.items) ∧ z.n.log.items.length ≤ z.c
theorem Newly.push {sz : Int} {ns : List NP} {m m8 : Mem} {i : Nat} (h : Newly sz ns m i) {n : Node} {A : Option Addr} {c : Nat} (hn : n = newN (i : Int) sz) (hc : Cells m8 A (itemsV n.log.items) ∧ n.log.items.length ≤ c) (hx : ∀ b o, m b = some o → m8 b = some o) : Newly sz (ns ++ [⟨n, A, c⟩]) m8 (i + 1) := by
  refine ⟨by rw [List.length_append, h.len]; rfl, fun v z hz => ?_⟩
  by_cases hv : v < ns.length
  · rw [List.getElem?_append_left hv] at hz
    obtain ⟨h1, h2, h3⟩ := h.n v z hz
    exact ⟨h1, h2.ext hx, h3⟩
  · rw [List.getElem?_append_right (by omega)] at hz
    have h1 := (List.getElem?_eq_some_iff.1 hz).1
    have e : [(⟨n, A, c⟩ : NP)].length = 1 := rfl
    have hv0 : v - ns.length = 0 := by omega
    rw [hv0] at hz
    cases hz
    have : v = i := by have := h.len; omega
    subst this
    exact ⟨hn, hc⟩
theorem nps_row {ys : List NP} {y : NP} : ys.length + 1 = (ys ++ [y]).length ∧ (npsV ys).take (ys.length * 26) ++ (dens η0 (nodeC y.n (.sl y.A y.n.log.items.length y.c))).take (1 * 26) = npsV (ys ++ [y]) := by
  refine ⟨by rw [List.length_append]; rfl, ?_⟩
  rw [List.take_of_length_le (by rw [npsV_len]; omega)]
  have e : npsV (ys ++ [y]) = npsV ys ++ npsV [y] := by simp [npsV]
  rw [e]
  have e2 : npsV [y] = npV y := by simp [npsV]
  rw [e2]
  rfl
structure SafeL where
  i : Nat
  ns : List NP
  m : Mem
structure SafeW where
  i : Nat
  y : Wld
  m : Mem
  g : Gh Item
  nf : Nat → Node
  Fs : Nat → List Item
structure Going (sz i : Nat) (g : Gh Item) (nf : Nat → Node) (Fs : Nat → List Item) (y : Wld) (m : Mem) : Prop where
  inv : Inv sz i y.su.length g nf Fs y.abs
  mem : InM m y
  com : ∀ n ∈ y.abs.ns, n.commit.toNat ≤ y.su.length
  sl : y.su.length ≤ 1000
  tl : y.ts.length ≤ 7 * i
theorem going_begin {sz : Nat} (h1 : 1 ≤ sz) (h7 : sz ≤ 7) {ns : List NP} {m : Mem} (hF : Newly (sz : Int) ns m sz) : ∃ g nf Fs, Going sz 0 g nf Fs ⟨ns, [], [], [], [], [], 0⟩ m := by
  obtain ⟨g, hw, hs⟩ := WI.begin h1 h7 (ns := fun v => newN (v : Int) (sz : Int)) fun _ _ => rfl
  have hsame : ∀ (v : Nat) (n : Node), (ns.map (·.n))[v]? = some n → newN (v : Int) (sz : Int) = n := fun v n h => by
    rw [List.getElem?_map] at h
    obtain ⟨z, hz, rfl⟩ := Option.map_eq_some_iff.1 h
    exact (hF.n v z hz).1.symm
  refine ⟨g, fun v => newN (v : Int) (sz : Int), fun _ => [], ⟨⟨?_, hsame, hw, hs, ⟨rfl, fun k t hk => by cases hk⟩, Nat.zero_le _⟩, ⟨fun z hz => ?_, fun o ho => by cases ho⟩, fun n hn => ?_, Nat.zero_le _, Nat.zero_le _⟩⟩
  · show (ns.map (·.n)).length = sz
    rw [List.length_map]; exact hF.len
  · obtain ⟨v, hv⟩ := List.getElem?_of_mem hz
    exact (hF.n v z hv).2
  · obtain ⟨v, hv⟩ := List.getElem?_of_mem hn
    have := hsame v n hv
    rw [← this]
    exact Nat.le_refl _
theorem turnW_keep (w : WA) (v : Nat) (r : StepR) : (turnW w v r).su = w.su ∧ (turnW w v r).ts = w.ts := by
  unfold turnW; split <;> exact ⟨rfl, rfl⟩
theorem lessW_keep (w : WA) (x : MoveV) : (lessW w x).su = w.su ∧ (lessW w x).ts = w.ts := ⟨lessW_same.2.2.2.1, lessW_same.2.1⟩
theorem moveW_keep (w : WA) (x : MoveV) : (moveW w x).su = w.su ∧ (moveW w x).ts = w.ts := by
  unfold moveW
  split
  · split
    · exact ⟨rfl, rfl⟩
    · split
      · unfold hearW
        split
        · exact lessW_keep w x
        · split
          · exact ⟨(turnW_keep _ _ _).1.trans (lessW_keep w x).1, (turnW_keep _ _ _).2.trans (lessW_keep w x).2⟩
          · exact lessW_keep w x
      · exact ⟨rfl, rfl⟩
  · split
    · exact ⟨rfl, rfl⟩
    · split
      · unfold ownW
        repeat (split; exact turnW_keep _ _ _)
        exact turnW_keep _ _ _
      · exact ⟨rfl, rfl⟩
theorem Going.step {sz i : Nat} {g : Gh Item} {nf : Nat → Node} {Fs : Nat → List Item} {y : Wld} {m : Mem} (h : Going sz i g nf Fs y m) (hi : i ≤ 1000) {x : MoveV} {y' : Wld} (habs : y'.abs = moveW y.abs x) : ∃ g' nf' Fs', Inv sz (i + 1) y.su.length g' nf' Fs' y'.abs ∧ y'.su = y.su ∧ y'.ts = y.ts := by
  obtain ⟨g', nf', Fs', hi'⟩ := h.inv.moved h.com hi x
  have hk := moveW_keep y.abs x
  rw [← habs] at hi' hk
  exact ⟨g', nf', Fs', hi', hk.1, hk.2⟩
end Go.Proofs.Ytjpjiniclibgkaa.Sx

namespace Go.Proofs.Ytjpjiniclibgkaa.Sx
open Go Safe

/-- A follower of the term T, whose leader's log is g.L T: its log, and what of it the leader has for certain. -/
structure Fol (g : Gh Item) (T : Int) (n : Node) (F : List Item) : Prop where
  fine : Fine n
  term : n.log.term = T
  link : Link n F
  lm : Grown tmI g F T
  cl : n.commit.toNat ≤ (g.L T).length
  com : (g.L T).take n.commit.toNat <+: F
/-- What of a node does not change. -/
structure Same (n n' : Node) : Prop where
  me : n'.me = n.me
  size : n'.size = n.size
  term : n'.log.term = n.log.term
  role : n'.role = n.role
  lead : n'.lead = n.lead
theorem Same.refl (n : Node) : Same n n := ⟨rfl, rfl, rfl, rfl, rfl⟩
section fol
variable {g : Gh Item} {T : Int} {n : Node} {F : List Item} {k : Msg}
theorem pre_has {F L : List Item} {i : Nat} (h : L.take i <+: F) (hi : i ≤ L.length) : i ≤ F.length ∧ F.take i = L.take i := by
  have h1 := h.length_le
  rw [List.length_take] at h1
  have h2 := pre_eq h (i := i) (by rw [List.length_take]; omega)
  rw [List.take_take, Nat.min_self] at h2
  exact ⟨by omega, h2.symm⟩
/-- What both begin with, up to a place behind which they still agree. -/
theorem pre_less {F L : List Item} {i j : Nat} (h : L.take i <+: F) (hij : j ≤ i) : L.take j <+: F := (take_pre L hij).trans h
theorem layGo_all : ∀ (xs : List Item) (n : Node) (a : Int), n.log.items.length + xs.length ≤ 256 → (layGo n a xs).a = a + xs.length
  | [], n, a, _ => by show a = a + ((0 : Nat) : Int); omega
  | x :: r, n, a, h => by
    have hl : (cutN n a x).log.items.length ≤ n.log.items.length := by
      unfold cutN
      split
      · show (n.log.items.take _).length ≤ _; rw [List.length_take]; omega
      · exact Nat.le_refl _
    have hr : (x :: r).length = r.length + 1 := rfl
    rw [layGo]
    split
    · rw [layGo_all r _ _ (by omega)]; omega
    · rw [if_neg (by omega)]
      have hp : (pushN (cutN n a x) x).log.items.length = (cutN n a x).log.items.length + 1 := by show (_ ++ [x]).length = _; rw [List.length_append]; rfl
      rw [layGo_all r _ _ (by omega)]; omega
theorem clash_no {L : List Item} (hL : n.commit.toNat ≤ L.length) (hc : L.take n.commit.toNat <+: F) (hlk : Link n F) (hf : Fine n) : ∀ (xs : List Item) (a : Int), n.log.base ≤ a → xs <+: L.drop a.toNat → clashB n a xs = false
  | [], _, _, _ => rfl
  | x :: r, a, ha, hxs => by
    have hb1 := hf.b1
    have hc1 := hf.c1
    have hc2 := hf.c2
    have hxL : L[a.toNat]? = some x := by
      have := pre_get hxs (i := 0) (x := x) rfl
      rwa [List.getElem?_drop, Nat.add_zero] at this
    have hr : r <+: L.drop (a + 1).toNat := by
      have := pre_drop hxs 1
      rw [List.drop_drop] at this
      have e : a.toNat + 1 = (a + 1).toNat := by omega
      rw [e] at this
      exact this
    rw [clashB, clash_no hL hc hlk hf r (a + 1) (by omega) hr, Bool.or_false]
    by_cases hle : a + 1 ≤ n.commit
    · have hta := hlk.term hb1 (i := a + 1) (by omega) (by omega)
      have hp := pre_has (pre_less hc (j := (a + 1).toNat) (by omega)) (by omega)
      have e : (a + 1).toNat = a.toNat + 1 := by omega
      have het : endTm tmI (F.take (a + 1).toNat) = x.term := by rw [hp.2, e]; exact endTm_take (by omega) hxL
      rw [hta, het]
      simp
    · rw [decide_eq_false hle, Bool.false_and]
/-- What a leader is told by a follower that heard it. -/
structure Hears (g : Gh Item) (T : Int) (n : Node) (F : List Item) (k : Msg) (r : HeardR) (F' : List Item) (l : Int) (yes : Bool) : Prop where
  fol : Fol g T r.n F'
  keep : F' = F ∨ (F' <+: g.L T ∧ ∀ p, p <+: F → p <+: g.L T → p <+: F')
  same : Same n r.n
  ans : r.k = some (ansM l yes)
  l0 : 0 ≤ l
  y : yes = true → l.toNat ≤ (g.L T).length ∧ (g.L T).take l.toNat <+: F' ∧ min k.commit l ≤ r.n.commit
  n : yes = false → l < k.last ∧ ¬ (g.L T).take k.last.toNat <+: F
theorem Fol.layR (h : Fol g T n F) (hgL : Grown tmI g (g.L T) T) {a : Int} {xs : List Item} (hN : n.log.items.length + xs.length ≤ 256) (ha1 : n.log.base ≤ a) (ha2 : a.toNat ≤ F.length) (ha3 : a.toNat ≤ (g.L T).length) (hag : (g.L T).take a.toNat <+: F) (hxs : xs <+: (g.L T).drop a.toNat) (hf : Fine (Sx.layR n k a xs).n) :
    ∃ F', Hears g T n F k (Sx.layR n k a xs) F' (a + xs.length) true := by
  have hb1 := h.fine.b1
  have hc1 := h.fine.c1
  have hcl := h.cl
  have hno := clash_no h.cl h.com h.link h.fine xs a ha1 hxs
  unfold Sx.layR at hf ⊢
  rw [if_neg (by rw [hno]; decide)] at hf ⊢
  obtain ⟨F', its, hI, he⟩ := layGo_ok hgL h.lm xs n F a ⟨h.link, hb1, ha1, ha2, ha3, hag, .inl rfl⟩ hxs
  have hal := layGo_all xs n a hN
  rw [he, hal] at hI hf ⊢
  have hkeep : ∀ p, p <+: F → p <+: g.L T → p <+: F' := fun p h1 h2 => by
    rcases hI.or with h3 | h3
    · rw [h3]; exact h1
    · exact h3.2 p h1 h2
  have haL := hI.aL
  have hcom : (max n.commit (min k.commit (a + xs.length))).toNat ≤ (g.L T).length ∧ (g.L T).take (max n.commit (min k.commit (a + xs.length))).toNat <+: F' := by
    by_cases hc : min k.commit (a + xs.length) ≤ n.commit
    · have e : max n.commit (min k.commit (a + xs.length)) = n.commit := by omega
      rw [e]
      exact ⟨h.cl, hkeep _ h.com (List.take_prefix _ _)⟩
    · have e : (max n.commit (min k.commit (a + xs.length))).toNat ≤ (a + xs.length).toNat := by omega
      exact ⟨by omega, pre_less hI.tk e⟩
  refine ⟨F', ⟨hf, h.term, ⟨hI.link.len, hI.link.it, hI.link.bt⟩, ?_, hcom.1, hcom.2⟩, ?_, ⟨rfl, rfl, rfl, rfl, rfl⟩, rfl, by omega, fun _ => ⟨hI.aL, hI.tk, ?_⟩, fun h => by cases h⟩
  · rcases hI.or with h1 | h1
    · rw [h1]; exact h.lm
    · exact hgL.less h1.1
  · exact hI.or
  · show min k.commit (a + xs.length) ≤ max n.commit (min k.commit (a + xs.length))
    omega
theorem Fol.append (h : Fol g T n F) (hgL : Grown tmI g (g.L T) T) (hk : Heard n k) (hz : Zero n) (hkt : k.term = T) (hN : n.log.items.length ≤ 240) (h2 : k.last.toNat ≤ (g.L T).length) (h3 : k.lastTerm = endTm tmI ((g.L T).take k.last.toNat)) (h4 : k.items <+: (g.L T).drop k.last.toNat) :
    ∃ F' l yes, Hears g T n F k (appendR n k) F' l yes ∧ (yes = true → k.last + k.items.length ≤ l) := by
  have hf := (append_fine h.fine hk (by rw [h.term]; exact hkt) hz).1
  have hkl := hk.l
  have hb1 := h.fine.b1
  have hc1 := h.fine.c1
  have hka := hk.a1
  have hcl := h.cl
  have hlast := h.link.last
  have hlen := h.link.len
  unfold appendR at hf ⊢
  by_cases hlow : k.last < n.log.base
  · rw [if_pos hlow] at hf ⊢
    have hbp := pre_less h.com (j := n.log.base.toNat) (by omega)
    have hbh := pre_has hbp (by omega)
    have hsk : skipI n k = min (n.log.base - k.last).toNat k.items.length := rfl
    have hx : ¬ (k.last + (skipI n k : Int) = n.log.base ∧ termOf k.items (skipI n k - 1) ≠ n.log.baseTerm) := by
      rintro ⟨h5, h6⟩
      apply h6
      have hs1 : 1 ≤ skipI n k := by omega
      have hs2 : skipI n k - 1 < k.items.length := by omega
      have hx := List.getElem?_eq_getElem hs2
      obtain ⟨x, hxd⟩ : ∃ x, x = k.items[skipI n k - 1] := ⟨_, rfl⟩
      rw [← hxd] at hx
      have hxL := pre_get h4 hx
      rw [List.getElem?_drop] at hxL
      have e : k.last.toNat + (skipI n k - 1) = n.log.base.toNat - 1 := by omega
      rw [e] at hxL
      unfold termOf
      rw [hx]
      show x.term = n.log.baseTerm
      rw [h.link.bt, hbh.2]
      exact (endTm_take (by omega) hxL).symm
    rw [if_neg hx] at hf ⊢
    by_cases hs : k.last + (skipI n k : Int) < n.log.base
    · rw [if_pos hs] at hf ⊢
      exact ⟨F, n.log.base, true, ⟨h, .inl rfl, Same.refl n, rfl, hb1, fun _ => ⟨by omega, hbp, by show min k.commit n.log.base ≤ n.commit; omega⟩, fun h => by cases h⟩, fun _ => by omega⟩
    · rw [if_neg hs] at hf ⊢
      have hse : k.last + (skipI n k : Int) = n.log.base := by omega
      rw [hse] at hf ⊢
      have hxs : k.items.drop (skipI n k) <+: (g.L T).drop n.log.base.toNat := by
        have := pre_drop h4 (skipI n k)
        rw [List.drop_drop] at this
        have e : k.last.toNat + skipI n k = n.log.base.toNat := by omega
        rw [e] at this
        exact this
      have hdl : (k.items.drop (skipI n k)).length = k.items.length - skipI n k := List.length_drop
      obtain ⟨F', hh⟩ := h.layR hgL (a := n.log.base) (xs := k.items.drop (skipI n k)) (by omega) (Int.le_refl _) hbh.1 (by omega) hbp hxs hf
      exact ⟨F', _, true, hh, fun _ => by omega⟩
  · rw [if_neg hlow] at hf ⊢
    by_cases hx : (termAtN n.log k.last).2 = false ∨ (termAtN n.log k.last).1 ≠ k.lastTerm
    · rw [if_pos hx] at hf ⊢
      have hnot : ¬ (g.L T).take k.last.toNat <+: F := fun hp => by
        have hph := pre_has hp h2
        have hta := h.link.term hb1 (i := k.last) (by omega) (by omega)
        rcases hx with hx | hx
        · rw [hta] at hx; cases hx
        · rw [hta] at hx
          exact hx (by show endTm tmI (F.take k.last.toNat) = k.lastTerm; rw [hph.2, h3])
      have hbl : n.log.base < k.last := by
        rcases Int.lt_or_eq_of_le (Int.not_lt.1 hlow) with h5 | h5
        · exact h5
        · exact absurd (by rw [← h5]; exact pre_less h.com (by omega)) hnot
      exact ⟨F, _, false, ⟨h, .inl rfl, Same.refl n, rfl, by omega, (fun h => by cases h), fun _ => ⟨by omega, hnot⟩⟩, fun h => by cases h⟩
    · rw [if_neg hx] at hf ⊢
      have hk2 : (termAtN n.log k.last).2 = true := by
        cases hh : (termAtN n.log k.last).2 with
        | true => rfl
        | false => exact absurd (.inl hh) hx
      have hk1 : (termAtN n.log k.last).1 = k.lastTerm := Decidable.byContradiction fun hh => hx (.inr hh)
      have hin := known_rng hk2
      have hta := h.link.term hb1 (i := k.last) hin.1 hin.2
      rw [hta] at hk1
      have hk1 : endTm tmI (F.take k.last.toNat) = k.lastTerm := hk1
      rw [h3] at hk1
      have hag := agree_at h.lm hgL (i := k.last.toNat) (by omega) h2 hk1
      obtain ⟨F', hh⟩ := h.layR hgL (a := k.last) (xs := k.items) (by omega) hin.1 (by omega) h2 (by rw [← hag]; exact List.take_prefix _ _) h4 hf
      exact ⟨F', _, true, hh, fun _ => Int.le_refl _⟩
theorem Fol.install (h : Fol g T n F) (hgL : Grown tmI g (g.L T) T) (hk : Heard n k) (hz : Zero n) (hkt : k.term = T) (h2 : k.last.toNat ≤ (g.L T).length) (h3 : k.lastTerm = endTm tmI ((g.L T).take k.last.toNat)) (hkc : k.commit = 0) :
    ∃ F' l, Hears g T n F k (installR n k) F' l true ∧ k.last ≤ l ∧ (installR n k).n.commit = l := by
  have hf := (install_fine h.fine hk (by rw [h.term]; exact hkt) hz).1
  have hb1 := h.fine.b1
  have hc1 := h.fine.c1
  have hka := hk.a1
  have hcl := h.cl
  have hlast := h.link.last
  have hlen := h.link.len
  unfold installR at hf ⊢
  by_cases hnew : k.last > n.commit
  · rw [if_pos hnew] at hf ⊢
    have hll : ((g.L T).take k.last.toNat).length = k.last.toNat := by rw [List.length_take]; omega
    by_cases hx : (termAtN n.log k.last).2 = true ∧ (termAtN n.log k.last).1 = k.lastTerm
    · have hin := known_rng hx.1
      have hta := h.link.term hb1 (i := k.last) hin.1 hin.2
      have hk1 : endTm tmI (F.take k.last.toNat) = endTm tmI ((g.L T).take k.last.toNat) := by
        have := hx.2
        rw [hta, h3] at this
        exact this
      have hag : F.take k.last.toNat = (g.L T).take k.last.toNat := agree_at h.lm hgL (by omega) h2 hk1
      have hpre : (g.L T).take k.last.toNat <+: F := by rw [← hag]; exact List.take_prefix _ _
      have hrest : restL n k = F.drop k.last.toNat := by
        unfold restL
        rw [if_pos hx, ← h.link.it, List.drop_drop]
        congr 1
        omega
      refine ⟨F, k.last, ⟨⟨hf, h.term, ⟨?_, hrest.symm, ?_⟩, h.lm, h2, hpre⟩, .inl rfl, ⟨rfl, rfl, rfl, rfl, rfl⟩, rfl, hka, fun _ => ⟨h2, hpre, ?_⟩, fun h => by cases h⟩, Int.le_refl _, rfl⟩
      · show (F.length : Int) = k.last + ((restL n k).length : Int)
        rw [hrest, List.length_drop]; omega
      · show k.lastTerm = endTm tmI (F.take k.last.toNat)
        rw [hag]; exact h3
      · show min k.commit k.last ≤ k.last; omega
    · have hrest : restL n k = [] := by unfold restL; rw [if_neg hx]
      refine ⟨(g.L T).take k.last.toNat, k.last, ⟨⟨hf, h.term, ⟨?_, ?_, ?_⟩, hgL.less (List.take_prefix _ _), h2, List.prefix_refl _⟩, .inr ⟨List.take_prefix _ _, fun p hp1 hp2 => ?_⟩, ⟨rfl, rfl, rfl, rfl, rfl⟩, rfl, hka, fun _ => ⟨h2, List.prefix_refl _, ?_⟩, fun h => by cases h⟩, Int.le_refl _, rfl⟩
      · show ((((g.L T).take k.last.toNat).length : Nat) : Int) = k.last + ((restL n k).length : Int)
        rw [hrest, hll]
        show (k.last.toNat : Int) = k.last + ((0 : Nat) : Int)
        omega
      · show ((g.L T).take k.last.toNat).drop k.last.toNat = restL n k
        rw [hrest, List.drop_eq_nil_of_le (by omega)]
      · show k.lastTerm = endTm tmI (((g.L T).take k.last.toNat).take k.last.toNat)
        rw [List.take_take, Nat.min_self]; exact h3
      · by_cases hpl : p.length ≤ k.last.toNat
        · exact pre_two hp2 (List.take_prefix _ _) (by omega)
        · exfalso
          have hpF := hp1.length_le
          have e1 := pre_eq hp1 (i := k.last.toNat) (by omega)
          have e2 := pre_eq hp2 (i := k.last.toNat) (by omega)
          have hta := h.link.term hb1 (i := k.last) (by omega) (by omega)
          refine hx ⟨by rw [hta], ?_⟩
          rw [hta]
          show endTm tmI (F.take k.last.toNat) = k.lastTerm
          rw [← e1, e2, h3]
      · show min k.commit k.last ≤ k.last; omega
  · rw [if_neg hnew] at hf ⊢
    exact ⟨F, n.commit, ⟨h, .inl rfl, Same.refl n, rfl, by omega, fun _ => ⟨h.cl, h.com, by show min k.commit n.commit ≤ n.commit; omega⟩, fun h => by cases h⟩, by omega, rfl⟩
end fol
end Go.Proofs.Ytjpjiniclibgkaa.Sx

namespace Go.Proofs.Ytjpjiniclibgkaa.Sx
open Go Safe

theorem commit_top {n : Node} (h : Fine n) (ht : (termAtN n.log (lastI n)).1 = n.log.term) (hm : 2 * (haveN n (lastI n) n.size.toNat : Int) > n.size) : commitN n = lastI n := by
  have hc2 := h.c2
  have hl : (lastN n.log).1 = lastI n := last_fit h.fit
  unfold commitN
  rw [hl]
  by_cases hlt : n.commit < lastI n
  · rw [go_at hlt, if_neg (fun h => h ht), if_pos hm]
  · have e : (lastI n - n.commit).toNat = 0 := by omega
    rw [e]
    show n.commit = lastI n
    omega
theorem commit_ge (n : Node) : n.commit ≤ commitN n := (commitGo_le _).1
theorem rest_ok {l : Log} (h : Rising l) (hb : 0 ≤ l.baseTerm) {j : Nat} (hj : j ≤ l.items.length) : 0 ≤ (termAtN l (l.base + j)).1 ∧ (termAtN l (l.base + j)).1 ≤ l.term ∧ chainB (termAtN l (l.base + j)).1 ((l.items.drop j).take 16) = true ∧ endT (termAtN l (l.base + j)).1 ((l.items.drop j).take 16) ≤ l.term := by
  obtain ⟨h1, h2⟩ := h
  match j, hj with
  | 0, _ =>
    have e : (termAtN l (l.base + ((0 : Nat) : Int))).1 = l.baseTerm := by unfold termAtN; rw [if_pos (by omega)]
    rw [e]
    have h3 := endT_take 0 h1
    have h3 : l.baseTerm ≤ endT l.baseTerm l.items := h3
    refine ⟨hb, by omega, chain_take _ _ _ h1, ?_⟩
    have := endT_take 16 h1
    exact Int.le_trans this h2
  | j + 1, hj =>
    have hx := List.getElem?_eq_getElem (show j < l.items.length by omega)
    obtain ⟨x, hxd⟩ : ∃ x, x = l.items[j] := ⟨_, rfl⟩
    rw [← hxd] at hx
    have e : (termAtN l (l.base + ((j + 1 : Nat) : Int))).1 = x.term := by
      rw [termAtN_in (x := x) (by omega) (by omega) (by omega) (by rw [show (l.base + ((j + 1 : Nat) : Int) - l.base - 1).toNat = j by omega]; exact hx)]
    rw [e]
    have h3 := chain_le h1 hx
    have h4 := chain_drop h1 hx
    refine ⟨by omega, by omega, chain_take _ _ _ h4.1, ?_⟩
    have := endT_take 16 h4.1
    omega
/-- A leader of the term T, whose log is g.L T. -/
structure Lead (g : Gh Item) (T : Int) (b sz : Nat) (n : Node) : Prop where
  fine : Fine n
  me : n.me = (b : Int)
  size : n.size = (sz : Int)
  role : n.role = 2
  ld : n.lead = (b : Int)
  term : n.log.term = T
  link : Link n (g.L T)
  top : (termAtN n.log (lastI n)).1 = T
  own : n.mat b = lastI n
  cst : 2 * (haveN n (lastI n) sz : Int) > sz → n.commit = lastI n
  mn : ∀ v, v < sz → v ≠ b → n.mat v ≤ n.next v - 1
/-- What a leader says to a node, at some state of its commit. -/
def sentM (n : Node) (v : Nat) (cm : Int) : Msg := feedN { n with commit := cm } v
theorem sent_same {n n' : Node} {v : Nat} {cm : Int} (h1 : n'.me = n.me) (h2 : n'.log = n.log) (h3 : n'.next v = n.next v) : sentM n' v cm = sentM n v cm := by
  unfold sentM feedN feedK sayN
  show (⟨n'.me, _, _, n'.log.term, _, _, _, _, _, _⟩ : Msg) = ⟨n.me, _, _, n.log.term, _, _, _, _, _, _⟩
  have e : ((v : Int)).toNat = v := rfl
  simp only [e, h1, h2, h3]
/-- What is in such a message. -/
structure Sends (L : List Item) (T : Int) (n : Node) (v : Nat) (cm : Int) (k : Msg) : Prop where
  to : k.to = (v : Int)
  frm : k.frm = n.me
  term : k.term = T
  heard : ∀ a : Node, a.me = (v : Int) → a.size = n.size → Heard a k
  l2 : k.last.toNat ≤ L.length
  l3 : k.lastTerm = endTm tmI (L.take k.last.toNat)
  l4 : k.items <+: L.drop k.last.toNat
  or : (k.kind = 5 ∧ k.commit = 0 ∧ n.next v - 1 < k.last) ∨ (k.kind = 3 ∧ k.commit = cm ∧ k.last = n.next v - 1 ∧ (k.last.toNat < L.length → 1 ≤ k.items.length))
section lead
variable {g : Gh Item} {T : Int} {b sz v : Nat} {n : Node}
theorem Lead.sends (h : Lead g T b sz n) (hv : v < sz) (hvb : v ≠ b) {cm : Int} (h0 : 0 ≤ cm) (h1 : cm ≤ 1099511627776) (hL : (g.L T).length ≤ 240) : Sends (g.L T) T n v cm (sentM n v cm) := by
  have hf := h.fine
  have hb1 := hf.b1
  have hb2 := hf.b2
  have hbt := hf.bt
  have ht1 := hf.t1
  have ht2 := hf.t2
  have hme := h.me
  have hsz := h.size
  have hlast := h.link.last
  have hlen := h.link.len
  have hli := lastI_eq n
  have hs2 := hf.s2
  have hm2 := hf.m2
  have hnx := hf.rg.nx v (by omega)
  have hT := h.term
  have ev : ((v : Int)).toNat = v := rfl
  unfold sentM feedN feedK sayN
  simp only [ev]
  by_cases hlow : n.next v - 1 < n.log.base
  · rw [if_pos hlow]
    have hr := rest_ok hf.ris hbt (j := 0) (Nat.zero_le _)
    have e : (termAtN n.log (n.log.base + ((0 : Nat) : Int))).1 = n.log.baseTerm := by unfold termAtN; rw [if_pos (by omega)]
    rw [e] at hr
    refine ⟨rfl, rfl, h.term, fun a ha1 ha2 => ⟨ha1.symm, ?_, ?_, ?_, by show (1 : Int) ≤ 5; decide, by show (5 : Int) ≤ 5; decide, ht1, ht2, hb1, hb2, hr.1, hr.2.1, Int.le_refl _, by show (0 : Int) ≤ 1099511627776; decide, Nat.zero_le _, ⟨rfl, hr.2.1⟩⟩, ?_, h.link.bt, List.nil_prefix, .inl ⟨rfl, rfl, hlow⟩⟩
    · show 0 ≤ n.me; omega
    · show n.me < a.size; rw [ha2]; omega
    · show n.me ≠ a.me; rw [ha1, hme]; omega
    · show n.log.base.toNat ≤ _; omega
  · rw [if_neg hlow]
    obtain ⟨j, hj⟩ : ∃ j : Nat, n.next v - 1 = n.log.base + (j : Int) := ⟨(n.next v - 1 - n.log.base).toNat, by omega⟩
    have hr := rest_ok hf.ris hbt (j := j) (by omega)
    rw [← hj] at hr
    have hta := h.link.term hb1 (i := n.next v - 1) (by omega) (by omega)
    have hd : n.log.items.drop (n.next v - 1 - n.log.base).toNat = (g.L T).drop (n.next v - 1).toNat := by
      rw [← h.link.it, List.drop_drop]
      congr 1
      omega
    have hd2 : n.log.items.drop (n.next v - 1 - n.log.base).toNat = n.log.items.drop j := by congr 1; omega
    refine ⟨rfl, rfl, h.term, fun a ha1 ha2 => ⟨ha1.symm, ?_, ?_, ?_, by show (1 : Int) ≤ 3; decide, by show (3 : Int) ≤ 5; decide, ht1, ht2, ?_, ?_, hr.1, hr.2.1, h0, h1, ?_, ?_⟩, ?_, ?_, ?_, .inr ⟨rfl, rfl, rfl, fun hlt => ?_⟩⟩
    · show 0 ≤ n.me; omega
    · show n.me < a.size; rw [ha2]; omega
    · show n.me ≠ a.me; rw [ha1, hme]; omega
    · show 0 ≤ n.next v - 1; omega
    · show n.next v - 1 ≤ 1099511627776; omega
    · show ((n.log.items.drop (n.next v - 1 - n.log.base).toNat).take 16).length ≤ 16
      rw [List.length_take]; omega
    · show chainB (termAtN n.log (n.next v - 1)).1 ((n.log.items.drop (n.next v - 1 - n.log.base).toNat).take 16) = true ∧ endT (termAtN n.log (n.next v - 1)).1 ((n.log.items.drop (n.next v - 1 - n.log.base).toNat).take 16) ≤ n.log.term
      rw [hd2]
      exact hr.2.2
    · show (n.next v - 1).toNat ≤ _; omega
    · show (termAtN n.log (n.next v - 1)).1 = endTm tmI ((g.L T).take (n.next v - 1).toNat)
      rw [hta]
    · show (n.log.items.drop (n.next v - 1 - n.log.base).toNat).take 16 <+: (g.L T).drop (n.next v - 1).toNat
      rw [hd]
      exact List.take_prefix _ _
    · have hlt : (n.next v - 1).toNat < (g.L T).length := hlt
      show 1 ≤ ((n.log.items.drop (n.next v - 1 - n.log.base).toNat).take 16).length
      rw [hd, List.length_take, List.length_drop]; omega
/-- How a leader is behind what it heard from a node. -/
structure Got (g : Gh Item) (T : Int) (b sz v : Nat) (n n' : Node) : Prop where
  lead : Lead g T b sz n'
  log : n'.log = n.log
  com : n.commit ≤ n'.commit
  oth : ∀ u, u ≠ v → n'.mat u = n.mat u ∧ n'.next u = n.next u
theorem have_same {n n' : Node} {i : Int} (h : ∀ j, n'.mat j = n.mat j) : ∀ s, haveN n' i s = haveN n i s := fun s => by
  unfold haveN
  congr 1
  apply List.filter_congr
  intro j _
  rw [h j]
theorem Lead.yes (h : Lead g T b sz n) (hv : v < sz) (hvb : v ≠ b) {k : Msg} (hkf : k.frm = (v : Int)) (hkt : k.term = T) (hy : k.yes = true) (hl0 : 0 ≤ k.last) (hl1 : k.last ≤ lastI n) (hl2 : n.next v - 1 ≤ k.last) :
    Got g T b sz v n (gotN n k) ∧ (gotN n k).mat v = k.last ∧ (gotN n k).next v = k.last + 1 ∧ gotY n k = decide (k.last < lastI n) := by
  have hmn := h.mn v hv hvb
  have ev : k.frm.toNat = v := by omega
  have hfar : farI n k = k.last := by unfold farI; rw [ev]; omega
  have hil : isLead n k = true := by unfold isLead; rw [h.role, hkt, h.term]; simp
  have hgot : gotN n k = { hearN n k with commit := commitN (hearN n k) } := by unfold gotN; rw [hil, hy]
  have hgf := got_fine h.fine (k := k) (by omega) (by rw [h.size]; omega) hl0
  have hhf := hear_fine h.fine (k := k) (by omega) (by rw [h.size]; omega) hl0
  have hmat : (hearN n k).mat v = k.last := by show (if v = k.frm.toNat then farI n k else n.mat v) = _; rw [ev, if_pos rfl, hfar]
  have hnext : (hearN n k).next v = k.last + 1 := by show (if v = k.frm.toNat then max (n.next k.frm.toNat) (farI n k + 1) else n.next v) = _; rw [ev, if_pos rfl, hfar]; omega
  have hmo : ∀ u, u ≠ v → (hearN n k).mat u = n.mat u := fun u hu => by show (if u = k.frm.toNat then farI n k else n.mat u) = _; rw [ev, if_neg hu]
  have hno : ∀ u, u ≠ v → (hearN n k).next u = n.next u := fun u hu => by show (if u = k.frm.toNat then max (n.next k.frm.toNat) (farI n k + 1) else n.next u) = _; rw [ev, if_neg hu]
  have hszn : n.size.toNat = sz := by have := h.size; omega
  rw [hgot] at hgf ⊢
  refine ⟨⟨⟨hgf, h.me, h.size, h.role, h.ld, h.term, ⟨h.link.len, h.link.it, h.link.bt⟩, h.top, ?_, fun hm => ?_, fun u hu hub => ?_⟩, rfl, commit_ge (hearN n k), fun u hu => ⟨hmo u hu, hno u hu⟩⟩, hmat, hnext, ?_⟩
  · show (hearN n k).mat b = lastI n
    rw [hmo b (fun h => hvb h.symm)]; exact h.own
  · show commitN (hearN n k) = lastI n
    refine commit_top hhf (h.top.trans h.term.symm) ?_
    show 2 * (haveN (hearN n k) (lastI n) n.size.toNat : Int) > n.size
    rw [hszn, h.size]
    have e := have_same (n := hearN n k) (n' := { hearN n k with commit := commitN (hearN n k) }) (i := lastI n) (fun _ => rfl) sz
    have hm : 2 * (haveN { hearN n k with commit := commitN (hearN n k) } (lastI n) sz : Int) > sz := hm
    rw [e] at hm
    exact hm
  · show (hearN n k).mat u ≤ (hearN n k).next u - 1
    by_cases huv : u = v
    · subst huv; rw [hmat, hnext]; omega
    · rw [hmo u huv, hno u huv]; exact h.mn u hu hub
  · unfold gotY
    rw [hil, hy, hfar, ev]
    have : max (n.next v) (k.last + 1) = k.last + 1 := by omega
    rw [this]
    simp
theorem Lead.no (h : Lead g T b sz n) (hv : v < sz) (hvb : v ≠ b) {k : Msg} (hkf : k.frm = (v : Int)) (hkt : k.term = T) (hy : k.yes = false) (hl0 : 0 ≤ k.last) (hl1 : k.last < n.next v - 1) (hm : n.mat v < n.next v - 1) :
    Got g T b sz v n (gotN n k) ∧ (gotN n k).mat v = n.mat v ∧ (gotN n k).next v < n.next v ∧ gotY n k = true := by
  have ev : k.frm.toNat = v := by omega
  have hil : isLead n k = true := by unfold isLead; rw [h.role, hkt, h.term]; simp
  have hback : backI n k < n.next k.frm.toNat ∧ n.mat v + 1 ≤ backI n k := by unfold backI; rw [ev]; omega
  have hdec : decide (backI n k < n.next k.frm.toNat) = true := decide_eq_true hback.1
  have hgot : gotN n k = { n with next := fun j => if j = k.frm.toNat then backI n k else n.next j } := by unfold gotN; rw [hil, hy]; simp only [hdec]
  have hgf := got_fine h.fine (k := k) (by omega) (by rw [h.size]; omega) hl0
  rw [hgot] at hgf ⊢
  have hnv : (if v = k.frm.toNat then backI n k else n.next v) = backI n k := by rw [ev, if_pos rfl]
  have hno : ∀ u, u ≠ v → (if u = k.frm.toNat then backI n k else n.next u) = n.next u := fun u hu => by rw [ev, if_neg hu]
  refine ⟨⟨⟨hgf, h.me, h.size, h.role, h.ld, h.term, ⟨h.link.len, h.link.it, h.link.bt⟩, h.top, h.own, h.cst, fun u hu hub => ?_⟩, rfl, Int.le_refl _, fun u hu => ⟨rfl, hno u hu⟩⟩, rfl, ?_, ?_⟩
  · show n.mat u ≤ (if u = k.frm.toNat then backI n k else n.next u) - 1
    by_cases huv : u = v
    · subst huv; rw [hnv]; omega
    · rw [hno u huv]; exact h.mn u hu hub
  · show (if v = k.frm.toNat then backI n k else n.next v) < n.next v
    rw [hnv]; rw [ev] at hback; exact hback.1
  · unfold gotY
    rw [hil, hy]
    simp only [hdec, Bool.and_true]
end lead
end Go.Proofs.Ytjpjiniclibgkaa.Sx

namespace Go.Proofs.Ytjpjiniclibgkaa.Sx
open Go Safe

/-- A follower, beside its leader. -/
structure Foll (g : Gh Item) (T : Int) (sz v : Nat) (nb n : Node) (F : List Item) : Prop where
  fol : Fol g T n F
  me : n.me = (v : Int)
  size : n.size = (sz : Int)
  role : n.role = 0
  len : F.length ≤ 240
  has : (g.L T).take (nb.mat v).toNat <+: F
/-- What a follower answers. -/
structure Back (g : Gh Item) (T : Int) (b sz v : Nat) (nb : Node) (F : List Item) (k : Msg) : Prop where
  frm : k.frm = (v : Int)
  to : k.to = (b : Int)
  term : k.term = T
  kind : k.kind = 4
  heard : ∀ a : Node, a.me = (b : Int) → a.size = (sz : Int) → Heard a k
  l0 : 0 ≤ k.last
  y : k.yes = true → k.last ≤ lastI nb ∧ nb.next v - 1 ≤ k.last ∧ (nb.next v - 1 < lastI nb → nb.next v ≤ k.last) ∧ (g.L T).take k.last.toNat <+: F
  n : k.yes = false → k.last < nb.next v - 1 ∧ nb.mat v < nb.next v - 1
section
variable {g : Gh Item} {T : Int} {b sz v : Nat} {nb n : Node} {F : List Item} {k : Msg}
theorem step_good (hf : Fine n) (hk : Heard n k) (ht : k.term = n.log.term) : stepR n k = heardK n k := by
  unfold stepR
  rw [if_pos ⟨fine_iff.2 hf, heard_iff.2 hk⟩]
  have : turnN n k = n := by unfold turnN; rw [if_neg (by omega)]
  rw [this]
theorem step_stale (h : Lead g T b sz nb) (hk : Heard nb k) (ht : k.term = T) (h2 : k.kind = 2) : stepR nb k = ⟨nb, [], 0⟩ := by
  rw [step_good h.fine hk (by rw [h.term]; exact ht)]
  have hv : voteB nb k = false := by unfold voteB; rw [h.role]; rfl
  unfold heardK
  rw [if_neg (by rw [h2]; decide), if_pos h2, if_neg (by rw [hv]; decide)]
theorem step_got (h : Lead g T b sz nb) (hk : Heard nb k) (ht : k.term = T) (h4 : k.kind = 4) : stepR nb k = gotS nb k := by
  rw [step_good h.fine hk (by rw [h.term]; exact ht)]
  unfold heardK
  rw [if_neg (by rw [h4]; decide), if_neg (by rw [h4]; decide), if_pos h4]
theorem step_hear (hf : Fine n) (hr : n.role = 0) (hk : Heard n k) (ht : k.term = n.log.term) : (k.kind = 3 → stepR n k = heardS (followN n k.term k.frm) k (appendR (followN n k.term k.frm) k)) ∧ (k.kind = 5 → stepR n k = heardS (followN n k.term k.frm) k (installR (followN n k.term k.frm) k)) := by
  rw [step_good hf hk ht]
  refine ⟨fun h3 => ?_, fun h5 => ?_⟩
  · unfold heardK leaderS
    rw [if_neg (by rw [h3]; decide), if_neg (by rw [h3]; decide), if_neg (by rw [h3]; decide), if_neg (by omega), if_neg (by rw [hr]; decide), if_pos h3]
  · unfold heardK leaderS
    rw [if_neg (by rw [h5]; decide), if_neg (by rw [h5]; decide), if_neg (by rw [h5]; decide), if_neg (by omega), if_neg (by rw [hr]; decide), if_neg (by rw [h5]; decide)]
theorem Fol.follow (h : Fol g T n F) (hk : Heard n k) (ht : k.term = T) : Fol g T (followN n k.term k.frm) F := by
  have hs := follow_same (n := n) (t := k.term) (l := k.frm) (by rw [h.term, ht]; exact Int.lt_irrefl _)
  have hf := follow_fine h.fine hk (by rw [h.term, ht]; exact Int.lt_irrefl _)
  refine ⟨hf, by rw [hs]; exact h.term, ?_, h.lm, h.cl, h.com⟩
  exact ⟨by rw [hs]; exact h.link.len, by rw [hs]; exact h.link.it, by rw [hs]; exact h.link.bt⟩
theorem ans_heard {m : Node} {l : Int} {y : Bool} {to : Int} (h1 : m.me = (v : Int)) (h2 : m.log.term = T) (h3 : to = (b : Int)) (hv : v < sz) (hvb : v ≠ b) (ht1 : 0 ≤ T) (ht2 : T ≤ 1099511627776) (hl0 : 0 ≤ l) (hl1 : l ≤ 1099511627776) : ∀ a : Node, a.me = (b : Int) → a.size = (sz : Int) → Heard a (sayN m to (ansM l y)) := fun a ha1 ha2 => by
  refine ⟨by rw [ha1]; exact h3, by show 0 ≤ m.me; omega, by show m.me < a.size; omega, by show m.me ≠ a.me; omega, by show (1 : Int) ≤ 4; decide, by show (4 : Int) ≤ 5; decide, by show 0 ≤ m.log.term; omega, by show m.log.term ≤ _; omega, hl0, hl1, Int.le_refl _, by show 0 ≤ m.log.term; omega, Int.le_refl _, by show (0 : Int) ≤ 1099511627776; decide, Nat.zero_le _, ⟨rfl, by show (0 : Int) ≤ m.log.term; omega⟩⟩
/-- A follower hears its leader. -/
theorem Foll.hear (h : Foll g T sz v nb n F) (hL : Lead g T b sz nb) (hgL : Grown tmI g (g.L T) T) (h240 : (g.L T).length ≤ 240) (hv : v < sz) (hvb : v ≠ b) {cm : Int} (h0 : 0 ≤ cm) (h1 : cm ≤ 1099511627776) (hk : k = sentM nb v cm) :
    ∃ n' F' a, stepR n k = ⟨n', [a], 0⟩ ∧ Foll g T sz v nb n' F' ∧ Back g T b sz v nb F' a ∧ n'.lead = (b : Int) ∧ ∀ c : Int, (c ≤ 0 ∨ (nb.mat v = nb.next v - 1 ∧ c ≤ nb.next v - 1)) → c ≤ cm → c ≤ n'.commit := by
  have hs := hL.sends hv hvb h0 h1 h240
  rw [← hk] at hs
  have hkd := hs.heard n h.me (by rw [h.size, hL.size])
  have hkt : k.term = n.log.term := by rw [hs.term, h.fol.term]
  have hst := step_hear h.fol.fine h.role hkd hkt
  have hfw := h.fol.follow hkd hs.term
  obtain ⟨m, hm⟩ : ∃ m, m = followN n k.term k.frm := ⟨_, rfl⟩
  have hmd : Heard m k := by
    rw [hm]
    exact ⟨hkd.to, hkd.f1, hkd.f2, hkd.f3, hkd.k1, hkd.k2, hkd.t1, hkd.t2, hkd.a1, hkd.a2, hkd.b1, hkd.b2, hkd.c1, hkd.c2, hkd.l, hkd.up⟩
  have hmz : Zero m := by rw [hm]; exact follow_zero _ _ _
  have hmme : m.me = (v : Int) := by rw [hm]; exact h.me
  have hmsz : m.size = (sz : Int) := by rw [hm]; exact h.size
  have hmro : m.role = 0 := by rw [hm]; rfl
  have hmld : m.lead = (b : Int) := by rw [hm]; show k.frm = _; rw [hs.frm, hL.me]
  rw [← hm] at hst hfw
  have hlast := hL.link.last
  have hmn := hL.mn v hv hvb
  have hb1 := hfw.fine.b1
  have hlk := hfw.link.len
  have hml : m.log.items.length ≤ 240 := by have := h.len; omega
  have ht1 := hL.fine.t1
  have ht2 := hL.fine.t2
  have hT := hL.term
  have hmat0 := (hL.fine.rg.mt v (by rw [hL.size]; omega)).1
  have hkf : k.frm = (b : Int) := by rw [hs.frm, hL.me]
  have fin : ∀ (r : HeardR) (F' : List Item) (l : Int) (yes : Bool), Hears g T m F k r F' l yes → (yes = true → nb.next v - 1 ≤ l ∧ (nb.next v - 1 < lastI nb → nb.next v ≤ l)) → (yes = false → k.last = nb.next v - 1) → (∀ c : Int, (c ≤ 0 ∨ (nb.mat v = nb.next v - 1 ∧ c ≤ nb.next v - 1)) → c ≤ cm → c ≤ r.n.commit) →
      ∃ n' F' a, heardS m k r = ⟨n', [a], 0⟩ ∧ Foll g T sz v nb n' F' ∧ Back g T b sz v nb F' a ∧ n'.lead = (b : Int) ∧ ∀ c : Int, (c ≤ 0 ∨ (nb.mat v = nb.next v - 1 ∧ c ≤ nb.next v - 1)) → c ≤ cm → c ≤ n'.commit := by
    intro r F' l yes hh hyes hno hcom
    have hl2 := hs.l2
    have hls : 0 ≤ l ∧ l ≤ 240 := by
      refine ⟨hh.l0, ?_⟩
      cases hy : yes with
      | true => have := (hh.y hy).1; omega
      | false => have := (hh.n hy).1; omega
    refine ⟨r.n, F', sayN m k.frm (ansM l yes), ?_, ⟨hh.fol, by rw [hh.same.me]; exact hmme, by rw [hh.same.size]; exact hmsz, by rw [hh.same.role]; exact hmro, ?_, ?_⟩, ⟨hmme, hkf, hfw.term, rfl, ans_heard hmme hfw.term hkf hv hvb (by omega) (by omega) hls.1 (by omega), hh.l0, fun hy => ?_, fun hy => ?_⟩, by rw [hh.same.lead]; exact hmld, hcom⟩
    · unfold heardS repl1
      rw [hh.ans]
    · rcases hh.keep with h5 | h5
      · rw [h5]; exact h.len
      · have := h5.1.length_le; omega
    · rcases hh.keep with h5 | h5
      · rw [h5]; exact h.has
      · exact h5.2 _ h.has (List.take_prefix _ _)
    · have hy : yes = true := hy
      obtain ⟨y1, y2, _⟩ := hh.y hy
      exact ⟨by show l ≤ lastI nb; omega, (hyes hy).1, (hyes hy).2, y2⟩
    · have hy : yes = false := hy
      obtain ⟨y1, y2⟩ := hh.n hy
      have hkl := hno hy
      refine ⟨by show l < nb.next v - 1; omega, ?_⟩
      rcases Int.lt_or_eq_of_le hmn with h5 | h5
      · exact h5
      · exact absurd (by rw [hkl, ← h5]; exact h.has) y2
  have hl2 := hs.l2
  have hka := hmd.a1
  rcases hs.or with ⟨k5, kc, kl⟩ | ⟨k3, kc, kl, ki⟩
  · obtain ⟨F', l, hh, hl, hcl⟩ := hfw.install hgL hmd hmz hs.term hs.l2 hs.l3 kc
    rw [hst.2 k5]
    refine fin _ F' l true hh (fun _ => ⟨by omega, fun _ => by omega⟩) (fun h => by cases h) fun c hc _ => ?_
    rw [hcl]
    have := hh.l0
    rcases hc with hc | hc
    · omega
    · omega
  · obtain ⟨F', l, yes, hh, hl⟩ := hfw.append hgL hmd hmz hs.term hml hs.l2 hs.l3 hs.l4
    rw [hst.1 k3]
    refine fin _ F' l yes hh (fun hy => ?_) (fun _ => kl) fun c hc hcm => ?_
    · have := hl hy
      refine ⟨by omega, fun hlt => ?_⟩
      have := ki (by omega)
      omega
    · have hc0 : 0 ≤ (appendR m k).n.commit := by have := hh.fol.fine.c1; have := hh.fol.fine.b1; omega
      rcases hc with hc | hc
      · omega
      · cases hy : yes with
        | true =>
          have h5 := (hh.y hy).2.2
          have := hl hy
          rw [kc] at h5
          omega
        | false =>
          have := (hh.n hy).2
          exact absurd (by rw [kl, ← hc.1]; exact h.has) this
end
end Go.Proofs.Ytjpjiniclibgkaa.Sx

namespace Go.Proofs.Ytjpjiniclibgkaa.Sx
open Go Safe

def sumF (f : Nat → Nat) : Nat → Nat
  | 0 => 0
  | s + 1 => sumF f s + f s
theorem sum_same {f f' : Nat → Nat} : ∀ s, (∀ u, u < s → f' u = f u) → sumF f' s = sumF f s
  | 0, _ => rfl
  | s + 1, h => by
    show sumF f' s + f' s = sumF f s + f s
    rw [sum_same s fun u hu => h u (by omega), h s (by omega)]
theorem sum_lt {f f' : Nat → Nat} {v : Nat} (ho : ∀ u, u ≠ v → f' u = f u) (hv : f' v < f v) : ∀ s, v < s → sumF f' s < sumF f s
  | 0, h => absurd h (Nat.not_lt_zero _)
  | s + 1, h => by
    show sumF f' s + f' s < sumF f s + f s
    by_cases hs : v = s
    · subst hs
      rw [sum_same (f := f) (f' := f') v fun u hu => ho u (by omega)]
      omega
    · have := sum_lt ho hv s (by omega)
      rw [ho s fun h => hs h.symm]
      omega
theorem sum_le {f : Nat → Nat} {m : Nat} (h : ∀ u, f u ≤ m) : ∀ s, sumF f s ≤ s * m
  | 0 => by show 0 ≤ _; omega
  | s + 1 => by
    have h1 := sum_le h s
    have h2 := h s
    show sumF f s + f s ≤ (s + 1) * m
    rw [Nat.add_mul, Nat.one_mul]
    omega
def flF (q : Nat → Msg) (vs : List Nat) (v : Nat) : Nat := if v ∈ vs then (if (q v).to = (v : Int) then 2 else 1) else 0
/-- How much is left to be said between the leader and a node. -/
def muF (b : Nat) (nb : Node) (q : Nat → Msg) (vs : List Nat) (v : Nat) : Nat := if v = b then 0 else (2 * ((lastI nb - nb.mat v) + (nb.next v - 1 - nb.mat v))).toNat + flF q vs v
/-- What is true of a world with a leader from message to message, where nothing is lost. -/
structure PL (sz b : Nat) (T c : Int) (g : Gh Item) (nb : Node) (Fs : Nat → List Item) (q : Nat → Msg) (stale : List Msg) (vs : List Nat) (w : WA) : Prop where
  len : w.ns.length = sz
  sz7 : sz ≤ 7
  at' : w.ns[b]? = some nb
  lead : Lead g T b sz nb
  lg : Grown tmI g (g.L T) T
  l240 : (g.L T).length ≤ 240
  fo : ∀ (v : Nat) (n : Node), v ≠ b → w.ns[v]? = some n → Foll g T sz v nb n (Fs v)
  qu : w.us = stale ++ vs.map q
  st : ∀ k ∈ stale, k.kind = 2 ∧ k.term = T ∧ k.to = (b : Int) ∧ ∀ a : Node, a.me = (b : Int) → a.size = (sz : Int) → Heard a k
  sl : stale.length ≤ 7
  ul : vs.length ≤ 7
  nd : vs.Nodup
  vl : ∀ v ∈ vs, v < sz ∧ v ≠ b
  cb : c ≤ nb.commit
  cc : c ≤ 0 ∨ ∀ v, v < sz → v ≠ b → nb.mat v = lastI nb
  ms : ∀ v ∈ vs, ∀ n, w.ns[v]? = some n → (∃ cm : Int, c ≤ cm ∧ 0 ≤ cm ∧ cm ≤ 1099511627776 ∧ q v = sentM nb v cm) ∨ (Back g T b sz v nb (Fs v) (q v) ∧ c ≤ n.commit ∧ n.lead = (b : Int))
  id : ∀ (v : Nat) (n : Node), v ∉ vs → v ≠ b → w.ns[v]? = some n → nb.mat v = lastI nb ∧ c ≤ n.commit ∧ n.lead = (b : Int)
theorem set_same {α : Type} {l : List α} {i : Nat} {x : α} (h : l[i]? = some x) : l.set i x = l := by
  apply List.ext_getElem?
  intro j
  by_cases hj : i = j
  · subst hj
    rw [List.getElem?_set_self (List.getElem?_eq_some_iff.1 h).1, h]
  · rw [List.getElem?_set_ne hj]
theorem drain1 {w : WA} {k : Msg} {r : List Msg} {n : Node} {v : Nat} {s : StepR} (hu : w.us = k :: r) (ht : k.to = (v : Int)) (hn : w.ns[v]? = some n) (hs : stepR n k = s) (he : s.e = 0) (hl : r.length + s.ks.length ≤ 256) :
    moveW w ⟨0, 0, 0⟩ = { w with ns := w.ns.set v s.n, us := r ++ s.ks } := by
  have hv : k.to.toNat = v := by omega
  have h1 : lessW w ⟨0, 0, 0⟩ = { w with us := r } := by
    unfold lessW
    rw [if_neg (by decide), hu]
    rfl
  have h0 : moveW w ⟨0, 0, 0⟩ = hearW w ⟨0, 0, 0⟩ k := by
    unfold moveW
    rw [if_pos (by decide), if_neg (by decide), hu]
    rfl
  have h2 : hearW w ⟨0, 0, 0⟩ k = turnW (lessW w ⟨0, 0, 0⟩) k.to.toNat (stepR n k) := by
    unfold hearW
    rw [if_neg (by decide), hv, hn]
  rw [h0, h2, h1, hv, hs]
  unfold turnW
  rw [if_pos he]
  show ({ w with ns := w.ns.set v s.n, us := r ++ s.ks.take (256 - r.length) } : WA) = _
  rw [List.take_of_length_le (by omega)]
section
variable {g : Gh Item} {T c : Int} {b sz u v : Nat} {nb nb' n : Node} {F : List Item} {k : Msg} {Fs : Nat → List Item} {q : Nat → Msg} {stale : List Msg} {vs vr : List Nat} {w : WA}
theorem Foll.got (h : Foll g T sz u nb n F) (hm : nb'.mat u = nb.mat u) : Foll g T sz u nb' n F := ⟨h.fol, h.me, h.size, h.role, h.len, by rw [hm]; exact h.has⟩
theorem last_log (hl : nb'.log = nb.log) : lastI nb' = lastI nb := by unfold lastI; rw [hl]
theorem Back.got (h : Back g T b sz u nb F k) (hl : nb'.log = nb.log) (hm : nb'.mat u = nb.mat u) (hn : nb'.next u = nb.next u) : Back g T b sz u nb' F k :=
  ⟨h.frm, h.to, h.term, h.kind, h.heard, h.l0, by rw [last_log hl, hn]; exact h.y, by rw [hn, hm]; exact h.n⟩
theorem map_upd {q : Nat → Msg} {v : Nat} {x : Msg} {l : List Nat} (h : v ∉ l) : l.map (upd q v x) = l.map q := List.map_congr_left fun _ hu => upd_other _ _ fun he => h (he ▸ hu)
theorem mem_turn {u v : Nat} {vr : List Nat} : u ∈ vr ++ [v] ↔ u ∈ v :: vr := by
  simp only [List.mem_append, List.mem_cons, List.not_mem_nil, or_false]
  exact or_comm
theorem PL.got (h : PL sz b T c g nb Fs q [] (v :: vr) w) (hg : Got g T b sz v nb nb') (hhas : (g.L T).take (nb'.mat v).toNat <+: Fs v) (hmono : nb.mat v ≤ nb'.mat v) {n : Node} (hn : w.ns[v]? = some n) (htold : c ≤ n.commit ∧ n.lead = (b : Int)) :
    PL sz b T c g nb' Fs (upd q v (sentM nb' v nb'.commit)) [] (vr ++ [v]) { w with ns := w.ns.set b nb', us := vr.map q ++ [sentM nb' v nb'.commit] } ∧
    (nb'.mat v = lastI nb' → PL sz b T c g nb' Fs q [] vr { w with ns := w.ns.set b nb', us := vr.map q ++ [] }) := by
  have hvl := h.vl v (List.mem_cons_self ..)
  have hnd := List.nodup_cons.1 h.nd
  have hll := last_log hg.log
  have hbl : b < w.ns.length := (List.getElem?_eq_some_iff.1 h.at').1
  have hset : ∀ (u : Nat) (n : Node), u ≠ b → (w.ns.set b nb')[u]? = some n → w.ns[u]? = some n := fun u n hu hx => by
    rwa [List.getElem?_set_ne fun h => hu h.symm] at hx
  have hfo : ∀ (u : Nat) (n : Node), u ≠ b → (w.ns.set b nb')[u]? = some n → Foll g T sz u nb' n (Fs u) := fun u n hu hx => by
    have h1 := h.fo u n hu (hset u n hu hx)
    by_cases huv : u = v
    · subst huv
      exact ⟨h1.fol, h1.me, h1.size, h1.role, h1.len, hhas⟩
    · exact h1.got (hg.oth u huv).1
  have hcc : c ≤ 0 ∨ ∀ u, u < sz → u ≠ b → nb'.mat u = lastI nb' := by
    rcases h.cc with h1 | h1
    · exact .inl h1
    · refine .inr fun u hu hub => ?_
      rw [hll]
      by_cases huv : u = v
      · subst huv
        have h2 := (hg.lead.fine.rg.mt u (by rw [hg.lead.size]; omega)).2
        have h3 := h1 u hu hub
        rw [hll] at h2
        omega
      · rw [(hg.oth u huv).1]; exact h1 u hu hub
  have hms : ∀ u ∈ vr, ∀ n, (w.ns.set b nb')[u]? = some n → (∃ cm : Int, c ≤ cm ∧ 0 ≤ cm ∧ cm ≤ 1099511627776 ∧ q u = sentM nb' u cm) ∨ (Back g T b sz u nb' (Fs u) (q u) ∧ c ≤ n.commit ∧ n.lead = (b : Int)) := fun u hu n hx => by
    have hul := h.vl u (List.mem_cons_of_mem _ hu)
    have huv : u ≠ v := fun he => hnd.1 (he ▸ hu)
    obtain ⟨o1, o2⟩ := hg.oth u huv
    rcases h.ms u (List.mem_cons_of_mem _ hu) n (hset u n hul.2 hx) with ⟨cm, c1, c2, c3, c4⟩ | ⟨h1, h2⟩
    · exact .inl ⟨cm, c1, c2, c3, by rw [c4]; exact (sent_same (by rw [hg.lead.me, h.lead.me]) hg.log o2).symm⟩
    · exact .inr ⟨h1.got hg.log o1 o2, h2⟩
  have hid : ∀ (u : Nat) (n : Node), u ∉ v :: vr → u ≠ b → (w.ns.set b nb')[u]? = some n → nb'.mat u = lastI nb' ∧ c ≤ n.commit ∧ n.lead = (b : Int) := fun u n hu hub hx => by
    have huv : u ≠ v := fun he => hu (he ▸ List.mem_cons_self ..)
    have := h.id u n hu hub (hset u n hub hx)
    rw [hll, (hg.oth u huv).1]
    exact this
  have hcb : c ≤ nb'.commit := Int.le_trans h.cb hg.com
  have hc0 : 0 ≤ nb'.commit ∧ nb'.commit ≤ 1099511627776 := by
    have h1 := hg.lead.fine.c1
    have h2 := hg.lead.fine.b1
    have h3 := hg.lead.fine.c2
    have h4 := hg.lead.link.last
    have h5 := h.l240
    omega
  have hat : (w.ns.set b nb')[b]? = some nb' := List.getElem?_set_self hbl
  have hul := h.ul
  have hlen1 : (v :: vr).length = vr.length + 1 := rfl
  refine ⟨⟨by show (w.ns.set b nb').length = sz; rw [List.length_set]; exact h.len, h.sz7, hat, hg.lead, h.lg, h.l240, hfo, ?_, (fun _ hk => by cases hk), Nat.zero_le _, ?_, ?_, fun u hu => h.vl u (mem_turn.1 hu), hcb, hcc, fun u hu n hx => ?_, fun u n hu hub hx => hid u n (fun h => hu (mem_turn.2 h)) hub hx⟩, fun hml => ⟨by show (w.ns.set b nb').length = sz; rw [List.length_set]; exact h.len, h.sz7, hat, hg.lead, h.lg, h.l240, hfo, ?_, (fun _ hk => by cases hk), Nat.zero_le _, by omega, hnd.2, fun u hu => h.vl u (List.mem_cons_of_mem _ hu), hcb, hcc, hms, fun u n hu hub hx => ?_⟩⟩
  · show vr.map q ++ [sentM nb' v nb'.commit] = [] ++ (vr ++ [v]).map (upd q v (sentM nb' v nb'.commit))
    rw [List.nil_append, List.map_append, map_upd hnd.1]
    show _ = vr.map q ++ [upd q v (sentM nb' v nb'.commit) v]
    rw [upd_self]
  · rw [List.length_append]
    show vr.length + 1 ≤ 7
    omega
  · exact List.nodup_append.2 ⟨hnd.2, List.nodup_cons.2 ⟨List.not_mem_nil, List.nodup_nil⟩, fun a ha b hb he => by
      have hb := List.mem_singleton.1 hb
      exact hnd.1 (hb ▸ he ▸ ha)⟩
  · by_cases huv : u = v
    · subst huv
      exact .inl ⟨nb'.commit, hcb, hc0.1, hc0.2, upd_self _ _ _⟩
    · rw [upd_other _ _ huv]
      exact hms u (by
        rcases List.mem_append.1 hu with h1 | h1
        · exact h1
        · exact absurd (List.mem_singleton.1 h1) huv) n hx
  · show vr.map q ++ [] = [] ++ vr.map q
    rw [List.append_nil, List.nil_append]
  · by_cases huv : u = v
    · subst huv
      have hx := hset u n hub hx
      rw [hn] at hx
      cases hx
      exact ⟨hml, htold⟩
    · exact hid u n (fun h => by
        rcases List.mem_cons.1 h with h1 | h1
        · exact huv h1
        · exact hu h1) hub hx
theorem fl_other {u v : Nat} {vr : List Nat} {x : Msg} (huv : u ≠ v) : flF (upd q v x) (vr ++ [v]) u = flF q (v :: vr) u := by
  unfold flF
  rw [upd_other _ _ huv]
  by_cases h : u ∈ v :: vr
  · rw [if_pos h, if_pos (mem_turn.2 h)]
  · rw [if_neg h, if_neg fun h2 => h (mem_turn.1 h2)]
theorem fl_self (v : Nat) (vr : List Nat) (x : Msg) : flF (upd q v x) (vr ++ [v]) v = if x.to = (v : Int) then 2 else 1 := by
  unfold flF
  rw [if_pos (List.mem_append.2 (.inr (List.mem_singleton.2 rfl))), upd_self]
theorem fl_head (v : Nat) (vr : List Nat) : flF q (v :: vr) v = if (q v).to = (v : Int) then 2 else 1 := by
  unfold flF
  rw [if_pos (List.mem_cons_self ..)]
theorem PL.step (h : PL sz b T c g nb Fs q stale vs w) (hne : w.us ≠ []) :
    ∃ nb' Fs' q' stale' vs', PL sz b T c g nb' Fs' q' stale' vs' (moveW w ⟨0, 0, 0⟩) ∧ stale'.length + sumF (muF b nb' q' vs') sz < stale.length + sumF (muF b nb q vs) sz := by
  have hsl := h.sl
  have hul := h.ul
  have hbl : b < sz := by rw [← h.len]; exact (List.getElem?_eq_some_iff.1 h.at').1
  match stale, h, hsl with
  | k :: r, h, hsl =>
    obtain ⟨k2, kt, kto, kh⟩ := h.st k (List.mem_cons_self ..)
    have hs := step_stale h.lead (kh nb h.lead.me h.lead.size) kt k2
    have hlen : (k :: r).length = r.length + 1 := rfl
    have e := drain1 (w := w) (k := k) (r := r ++ vs.map q) (v := b) (by rw [h.qu]; rfl) kto h.at' hs rfl (by
      show (r ++ vs.map q).length + 0 ≤ 256
      rw [List.length_append, List.length_map]; omega)
    rw [e]
    refine ⟨nb, Fs, q, r, vs, ⟨?_, h.sz7, ?_, h.lead, h.lg, h.l240, ?_, ?_, fun k hk => h.st k (List.mem_cons_of_mem _ hk), by omega, hul, h.nd, h.vl, h.cb, h.cc, ?_, ?_⟩, by omega⟩
    · show (w.ns.set b nb).length = sz; rw [List.length_set]; exact h.len
    · show (w.ns.set b nb)[b]? = some nb; rw [set_same h.at']; exact h.at'
    · show ∀ (v : Nat) (n : Node), v ≠ b → (w.ns.set b nb)[v]? = some n → _
      rw [set_same h.at']; exact h.fo
    · show (r ++ vs.map q) ++ [] = r ++ vs.map q
      rw [List.append_nil]
    · show ∀ v ∈ vs, ∀ n, (w.ns.set b nb)[v]? = some n → _
      rw [set_same h.at']; exact h.ms
    · show ∀ (v : Nat) (n : Node), v ∉ vs → v ≠ b → (w.ns.set b nb)[v]? = some n → _
      rw [set_same h.at']; exact h.id
  | [], h, _ =>
    match vs, h, hul with
    | [], h, _ => exact absurd h.qu hne
    | v :: vr, h, hul =>
      obtain ⟨hvl, hvb⟩ := h.vl v (List.mem_cons_self ..)
      have hlen1 : (v :: vr).length = vr.length + 1 := rfl
      have hnd := List.nodup_cons.1 h.nd
      obtain ⟨n, hn⟩ : ∃ n, w.ns[v]? = some n := ⟨_, List.getElem?_eq_getElem (by rw [h.len]; exact hvl)⟩
      have hq : w.us = q v :: vr.map q := by rw [h.qu]; rfl
      have hfo := h.fo v n hvb hn
      have hlast := h.lead.link.last
      have hmn := h.lead.mn v hvl hvb
      have hnx := h.lead.fine.rg.nx v (by rw [h.lead.size]; omega)
      have hmt := h.lead.fine.rg.mt v (by rw [h.lead.size]; omega)
      have hc2 := h.lead.fine.c2
      have hcb := h.cb
      rcases h.ms v (List.mem_cons_self ..) n hn with ⟨cm, c1, c2, c3, hk⟩ | ⟨hbk, htold⟩
      · obtain ⟨n', F', a, hs, hf', hb', hld, hcom⟩ := hfo.hear h.lead h.lg h.l240 hvl hvb c2 c3 hk
        have hto : (q v).to = (v : Int) := by rw [hk]; exact (h.lead.sends hvl hvb c2 c3 h.l240).to
        have e := drain1 (w := w) (k := q v) (r := vr.map q) (v := v) hq hto hn hs rfl (by
          show (vr.map q).length + 1 ≤ 256
          rw [List.length_map]; omega)
        rw [e]
        have hset : ∀ (u : Nat) (m : Node), u ≠ v → (w.ns.set v n')[u]? = some m → w.ns[u]? = some m := fun u m hu hx => by
          rwa [List.getElem?_set_ne fun h => hu h.symm] at hx
        have hself : ∀ m, (w.ns.set v n')[v]? = some m → m = n' := fun m hx => by
          rw [List.getElem?_set_self (List.getElem?_eq_some_iff.1 hn).1] at hx
          exact (Option.some.inj hx).symm
        have hct : c ≤ n'.commit := by
          refine hcom c ?_ c1
          rcases h.cc with h1 | h1
          · exact .inl h1
          · have := h1 v hvl hvb
            exact .inr (by omega)
        refine ⟨nb, upd Fs v F', upd q v a, [], vr ++ [v], ⟨?_, h.sz7, ?_, h.lead, h.lg, h.l240, fun u m hu hx => ?_, ?_, (fun _ hk => by cases hk), Nat.zero_le _, ?_, ?_, fun u hu => h.vl u (mem_turn.1 hu), h.cb, h.cc, fun u hu m hx => ?_, fun u m hu hub hx => ?_⟩, ?_⟩
        · show (w.ns.set v n').length = sz; rw [List.length_set]; exact h.len
        · show (w.ns.set v n')[b]? = some nb
          rw [List.getElem?_set_ne hvb]; exact h.at'
        · by_cases huv : u = v
          · subst huv
            rw [hself m hx, upd_self]; exact hf'
          · rw [upd_other _ _ huv]
            exact h.fo u m hu (hset u m huv hx)
        · show vr.map q ++ [a] = [] ++ (vr ++ [v]).map (upd q v a)
          rw [List.nil_append, List.map_append, map_upd hnd.1]
          show _ = vr.map q ++ [upd q v a v]
          rw [upd_self]
        · rw [List.length_append]
          show vr.length + 1 ≤ 7
          omega
        · exact List.nodup_append.2 ⟨hnd.2, List.nodup_cons.2 ⟨List.not_mem_nil, List.nodup_nil⟩, fun a ha b hb he => by
            have hb := List.mem_singleton.1 hb
            exact hnd.1 (hb ▸ he ▸ ha)⟩
        · by_cases huv : u = v
          · subst huv
            rw [hself m hx, upd_self, upd_self]
            exact .inr ⟨hb', hct, hld⟩
          · rw [upd_other _ _ huv, upd_other _ _ huv]
            exact h.ms u (mem_turn.1 hu) m (hset u m huv hx)
        · have huv : u ≠ v := fun he => hu (he ▸ List.mem_append.2 (.inr (List.mem_singleton.2 rfl)))
          exact h.id u m (fun h => hu (mem_turn.2 h)) hub (hset u m huv hx)
        · have hlt := sum_lt (f := muF b nb q (v :: vr)) (f' := muF b nb (upd q v a) (vr ++ [v])) (v := v) (fun u hu => by unfold muF; rw [fl_other hu]) (by
            unfold muF
            rw [if_neg hvb, if_neg hvb, fl_self, fl_head, if_pos hto, if_neg (by rw [hb'.to]; omega)]
            omega) sz hvl
          omega
      · have hkd := hbk.heard nb h.lead.me h.lead.size
        have hs := step_got h.lead hkd hbk.term hbk.kind
        have hto : (q v).to ≠ (v : Int) := by rw [hbk.to]; omega
        -- what follows when the leader goes on
        have go : ∀ nb', nb' = gotN nb (q v) → Got g T b sz v nb nb' → (g.L T).take (nb'.mat v).toNat <+: Fs v → nb.mat v ≤ nb'.mat v →
            (gotY nb (q v) = true → (lastI nb - nb'.mat v) + (nb'.next v - 1 - nb'.mat v) < (lastI nb - nb.mat v) + (nb.next v - 1 - nb.mat v) ∧ 0 ≤ (lastI nb - nb'.mat v) + (nb'.next v - 1 - nb'.mat v)) → (gotY nb (q v) = false → nb'.mat v = lastI nb ∧ nb'.next v - 1 ≤ nb'.mat v) →
            ∃ nb' Fs' q' stale' vs', PL sz b T c g nb' Fs' q' stale' vs' (moveW w ⟨0, 0, 0⟩) ∧ stale'.length + sumF (muF b nb' q' vs') sz < ([] : List Msg).length + sumF (muF b nb q (v :: vr)) sz := by
          intro nb' hnb hg hhas hmono hyes hno
          have hll := last_log hg.log
          have hpl := h.got hg hhas hmono hn htold
          cases hy : gotY nb (q v) with
          | true =>
            have hks : (gotS nb (q v)).ks = [sentM nb' v nb'.commit] := by
              unfold gotS
              rw [if_pos hy, ← hnb, hbk.frm]
              rfl
            have e := drain1 (w := w) (k := q v) (r := vr.map q) (v := b) hq hbk.to h.at' hs rfl (by
              rw [hks]
              show (vr.map q).length + 1 ≤ 256
              rw [List.length_map]; omega)
            have hsn : (gotS nb (q v)).n = nb' := hnb.symm
            rw [hks, hsn] at e
            rw [e]
            refine ⟨nb', Fs, _, [], vr ++ [v], hpl.1, ?_⟩
            have := hyes hy
            have hlt := sum_lt (f := muF b nb q (v :: vr)) (f' := muF b nb' (upd q v (sentM nb' v nb'.commit)) (vr ++ [v])) (v := v) (fun u hu => by unfold muF; rw [fl_other hu, hll, (hg.oth u hu).1, (hg.oth u hu).2]) (by
              unfold muF
              rw [if_neg hvb, if_neg hvb, fl_self, fl_head, if_neg hto, hll]
              split <;> omega) sz hvl
            omega
          | false =>
            have hks : (gotS nb (q v)).ks = [] := by
              unfold gotS
              rw [if_neg (by rw [hy]; decide)]
            have e := drain1 (w := w) (k := q v) (r := vr.map q) (v := b) hq hbk.to h.at' hs rfl (by
              rw [hks]
              show (vr.map q).length + 0 ≤ 256
              rw [List.length_map]; omega)
            have hsn : (gotS nb (q v)).n = nb' := hnb.symm
            rw [hks, hsn] at e
            rw [e]
            obtain ⟨hno1, hno2⟩ := hno hy
            refine ⟨nb', Fs, q, [], vr, hpl.2 (by rw [hll]; exact hno1), ?_⟩
            have hlt := sum_lt (f := muF b nb q (v :: vr)) (f' := muF b nb' q vr) (v := v) (fun u hu => by
              unfold muF
              rw [hll, (hg.oth u hu).1, (hg.oth u hu).2]
              have : flF q vr u = flF q (v :: vr) u := by
                unfold flF
                by_cases hm : u ∈ vr
                · rw [if_pos hm, if_pos (List.mem_cons_of_mem _ hm)]
                · rw [if_neg hm, if_neg fun h => by
                    rcases List.mem_cons.1 h with h1 | h1
                    · exact hu h1
                    · exact hm h1]
              rw [this]) (by
              unfold muF
              rw [if_neg hvb, if_neg hvb, fl_head, if_neg hto, hll]
              have : flF q vr v = 0 := by unfold flF; rw [if_neg hnd.1]
              rw [this]
              omega) sz hvl
            omega
        cases hyn : (q v).yes with
        | true =>
          obtain ⟨y1, y2, y3, y4⟩ := hbk.y hyn
          obtain ⟨hg, m1, m2, m3⟩ := h.lead.yes hvl hvb hbk.frm hbk.term hyn hbk.l0 y1 y2
          refine go _ rfl hg (by rw [m1]; exact y4) (by omega) (fun hy => ?_) fun hy => ?_
          · rw [m3] at hy
            have hy := of_decide_eq_true hy
            have := y3 (by omega)
            omega
          · rw [m3] at hy
            have hy := of_decide_eq_false hy
            omega
        | false =>
          obtain ⟨y1, y2⟩ := hbk.n hyn
          obtain ⟨hg, m1, m2, m3⟩ := h.lead.no hvl hvb hbk.frm hbk.term hyn hbk.l0 y1 y2
          have hmn' := hg.lead.mn v hvl hvb
          refine go _ rfl hg (by rw [m1]; exact hfo.has) (by omega) (fun hy => by omega) fun hy => ?_
          rw [m3] at hy
          cases hy
/-- What is under way is heard, so many messages at most. -/
def drainW : Nat → WA → WA
  | 0, w => w
  | k + 1, w => match w.us with
    | [] => w
    | _ :: _ => drainW k (moveW w ⟨0, 0, 0⟩)
theorem PL.drain : ∀ (m : Nat) (nb : Node) (Fs : Nat → List Item) (q : Nat → Msg) (stale : List Msg) (vs : List Nat) (w : WA), PL sz b T c g nb Fs q stale vs w → stale.length + sumF (muF b nb q vs) sz ≤ m → ∃ nb' Fs' q', PL sz b T c g nb' Fs' q' [] [] (drainW m w) := by
  intro m
  induction m with
  | zero =>
    intro nb Fs q stale vs w h hm
    match hw : w.us with
    | [] =>
      have hq := h.qu
      rw [hw] at hq
      have h1 := List.append_eq_nil_iff.1 hq.symm
      obtain rfl := h1.1
      obtain rfl := List.map_eq_nil_iff.1 h1.2
      exact ⟨nb, Fs, q, h⟩
    | k :: r =>
      obtain ⟨nb', Fs', q', st', vs', _, hlt⟩ := h.step (by rw [hw]; simp)
      omega
  | succ m ih =>
    intro nb Fs q stale vs w h hm
    match hw : w.us with
    | [] =>
      have hq := h.qu
      rw [hw] at hq
      have h1 := List.append_eq_nil_iff.1 hq.symm
      obtain rfl := h1.1
      obtain rfl := List.map_eq_nil_iff.1 h1.2
      refine ⟨nb, Fs, q, ?_⟩
      have e : drainW (m + 1) w = w := by rw [drainW, hw]
      rw [e]
      exact h
    | k :: r =>
      obtain ⟨nb', Fs', q', st', vs', h', hlt⟩ := h.step (by rw [hw]; simp)
      have e : drainW (m + 1) w = drainW m (moveW w ⟨0, 0, 0⟩) := by rw [drainW, hw]
      rw [e]
      exact ih nb' Fs' q' st' vs' _ h' (by omega)
end
end Go.Proofs.Ytjpjiniclibgkaa.Sx

namespace Go.Proofs.Ytjpjiniclibgkaa.Sx
open Go Safe

theorem others_in {n : Node} {i k : Nat} (h : k < i) (hk : (k : Int) ≠ n.me) : k ∈ othersL n i := List.mem_filter.2 ⟨List.mem_range.2 h, by simpa using hk⟩
theorem others_nd (n : Node) (i : Nat) : (othersL n i).Nodup := List.nodup_range.filter _
theorem cnt_all {p : Nat → Bool} : ∀ s, (∀ k, k < s → p k = true) → cnt s p = s
  | 0, _ => rfl
  | s + 1, h => by
    rw [cnt_succ, cnt_all s fun k hk => h k (by omega), if_pos (h s (by omega))]
theorem have_all {n : Node} {i : Int} {s : Nat} (h : ∀ k, k < s → n.mat k ≥ i) : haveN n i s = s := by
  have := cnt_all (p := fun k => decide (n.mat k ≥ i)) s fun k hk => decide_eq_true (h k hk)
  exact this
/-- What is true of a leader that laid an entry. -/
theorem put_facts {n : Node} {e : Entry} (hf : Fine n) (hv : validB e = true) (hsm : n.log.items.length < 256) : Fine (putN n e) ∧ lastI (putN n e) = lastI n + 1 ∧ (termAtN (putN n e).log (lastI (putN n e))).1 = n.log.term ∧ (putN n e).mat n.me.toNat = lastI (putN n e) ∧ ∀ sz : Nat, n.size = (sz : Int) → 2 * (haveN (putN n e) (lastI (putN n e)) sz : Int) > sz → (putN n e).commit = lastI (putN n e) := by
  have hb1 := hf.b1
  have hli : lastI (layN n e) = lastI n + 1 := by
    unfold lastI
    show n.log.base + ((n.log.items ++ [_]).length : Int) = _
    rw [List.length_append]
    show n.log.base + ((n.log.items.length + 1 : Nat) : Int) = _
    omega
  have hll : lastI n = n.log.base + n.log.items.length := rfl
  have htop : (termAtN (layN n e).log (lastI (layN n e))).1 = n.log.term := by
    rw [termAtN_in (x := ⟨n.log.term, e⟩)]
    · rw [hli]; show ¬ lastI n + 1 = n.log.base; omega
    · rw [hli]; show n.log.base < lastI n + 1; omega
    · rw [hli]
      show lastI n + 1 - n.log.base ≤ ((n.log.items ++ [_]).length : Int)
      rw [List.length_append]
      show lastI n + 1 - n.log.base ≤ ((n.log.items.length + 1 : Nat) : Int)
      omega
    · rw [hli]
      show (n.log.items ++ [⟨n.log.term, e⟩])[(lastI n + 1 - n.log.base - 1).toNat]? = _
      have e1 : (lastI n + 1 - n.log.base - 1).toNat = n.log.items.length := by omega
      rw [e1, List.getElem?_append_right (Nat.le_refl _), Nat.sub_self]
      rfl
  have hlf := lay_fine hf hv hsm
  refine ⟨put_fine hf hv hsm, hli, htop, ?_, fun sz hsz hm => ?_⟩
  · show (if n.me.toNat = n.me.toNat then n.log.base + n.log.items.length + 1 else n.mat n.me.toNat) = lastI (layN n e)
    rw [if_pos rfl, hli]; rfl
  · show commitN (layN n e) = lastI (layN n e)
    refine commit_top hlf htop ?_
    show 2 * (haveN (layN n e) (lastI (layN n e)) n.size.toNat : Int) > n.size
    have e1 : n.size.toNat = sz := by omega
    rw [e1, hsz]
    have e2 := have_same (n := layN n e) (n' := putN n e) (i := lastI (layN n e)) (fun _ => rfl) sz
    have hm : 2 * (haveN (putN n e) (lastI (layN n e)) sz : Int) > sz := hm
    rw [e2] at hm
    exact hm
section
variable {g : Gh Item} {T c : Int} {b sz K S : Nat} {nb : Node} {nf : Nat → Node} {Fs : Nat → List Item} {q : Nat → Msg} {w : WA}
/-- A leader begins. -/
theorem PL.first {stale : List Msg} (h : Inv sz K S g nf Fs w) (h7 : sz ≤ 7) (hat : w.ns[b]? = some nb) (hro : nb.role = 2) (hld : nb.lead = (b : Int)) (ht : nb.log.term = T) (hl : lastI nb ≤ 240) (htop : (termAtN nb.log (lastI nb)).1 = T) (hown : nb.mat b = lastI nb) (hcst : 2 * (haveN nb (lastI nb) sz : Int) > sz → nb.commit = lastI nb)
    (hmn : ∀ v, v < sz → v ≠ b → nb.mat v = 0 ∧ 0 ≤ nb.next v - 1) (ho : ∀ (v : Nat) (n : Node), v ≠ b → w.ns[v]? = some n → n.log.term = T ∧ n.role = 0 ∧ lastI n ≤ 240)
    (hqu : w.us = stale ++ feedAllK nb) (hst : ∀ k ∈ stale, k.kind = 2 ∧ k.term = T ∧ k.to = (b : Int) ∧ ∀ a : Node, a.me = (b : Int) → a.size = (sz : Int) → Heard a k) (hsl : stale.length ≤ 7) :
    PL sz b T 0 g nb Fs (fun v => feedN nb (v : Int)) stale (othersL nb sz) w := by
  obtain ⟨hbs, hh⟩ := h.here hat
  obtain ⟨l1, l2, l3⟩ := hh.lead hro
  rw [ht] at l1 l2
  have hlast := hh.link.last
  have hszn : nb.size.toNat = sz := by have := hh.size; omega
  have hc0 : 0 ≤ nb.commit ∧ nb.commit ≤ 1099511627776 := by
    have h1 := hh.fine.c1
    have h2 := hh.fine.b1
    have h3 := hh.fine.c2
    omega
  refine ⟨h.len, h7, hat, ⟨hh.fine, hh.me, hh.size, hro, hld, ht, by rw [← l2]; exact hh.link, htop, hown, hcst, fun v hv hvb => by have := hmn v hv hvb; omega⟩, hh.su.ok.lm T, by rw [← l2]; omega, fun v n hvb hn => ?_, ?_, hst, hsl, ?_, others_nd _ _, fun v hv => ?_, hc0.1, .inl (Int.le_refl _), fun v hv n _ => .inl ⟨nb.commit, hc0.1, hc0.1, hc0.2, rfl⟩, fun v n hv hvb hn => ?_⟩
  · obtain ⟨hvs, hv⟩ := h.here hn
    obtain ⟨o1, o2, o3⟩ := ho v n hvb hn
    have hhas := hv.has (i := n.commit.toNat) (by rw [o1, l1]; rfl) (Nat.le_refl _)
    rw [o1] at hhas
    have hlm := hv.su.nk.lm
    have hlm : Grown tmI g (Fs v) n.log.term := hlm
    rw [o1] at hlm
    have hvl := hv.link.last
    refine ⟨⟨hv.fine, o1, hv.link, hlm, hhas.2, by rw [hhas.1]; exact List.take_prefix _ _⟩, hv.me, hv.size, o2, by omega, ?_⟩
    rw [(hmn v hvs hvb).1]
    exact List.nil_prefix
  · rw [hqu]
    unfold feedAllK
    rw [hszn]
  · exact Nat.le_trans (others_len _ _) h7
  · obtain ⟨h1, h2⟩ := others_mem hv
    exact ⟨h1, fun he => h2 (by rw [he]; exact hh.me.symm)⟩
  · exact absurd (others_in (h.here hn).1 (by rw [hh.me]; omega)) hv
/-- Nothing is under way: all nodes have what the leader has. -/
theorem PL.idle (h : PL sz b T c g nb Fs q [] [] w) : w.us = [] ∧ nb.commit = lastI nb ∧ ∀ v, v < sz → v ≠ b → nb.mat v = lastI nb := by
  have hbl : b < sz := by rw [← h.len]; exact (List.getElem?_eq_some_iff.1 h.at').1
  have hall : ∀ v, v < sz → v ≠ b → nb.mat v = lastI nb := fun v hv hvb =>
    (h.id v _ List.not_mem_nil hvb (List.getElem?_eq_getElem (by rw [h.len]; exact hv))).1
  refine ⟨h.qu, h.lead.cst ?_, hall⟩
  rw [have_all fun k hk => ?_]
  · omega
  · by_cases hkb : k = b
    · rw [hkb, h.lead.own]; exact Int.le_refl _
    · rw [hall k hk hkb]; exact Int.le_refl _
theorem grown_add {l : List Item} {e : Entry} (h : Grown tmI g l T) : Grown tmI { g with L := fun t => if t = T then g.L T ++ [⟨T, e⟩] else g.L t } l T := fun i x hx => by
  obtain ⟨h1, h2, h3⟩ := h i x hx
  refine ⟨h1, h2, ?_⟩
  show l.take (i + 1) <+: if tmI x = T then g.L T ++ [⟨T, e⟩] else g.L (tmI x)
  split
  · rename_i ht
    rw [ht] at h3
    exact h3.trans (List.prefix_append _ _)
  · exact h3
/-- An entry is proposed. -/
theorem PL.add (h : PL sz b T 0 g nb Fs q [] [] w) (hld : (g.ld T).isSome = true) (hN : (g.L T).length ≤ 239) {e : Entry} (hv : validB e = true) {w' : WA} (hns : w'.ns = w.ns.set b (putN nb e)) (hus : w'.us = feedAllK (putN nb e)) :
    PL sz b T 0 { g with L := fun t => if t = T then g.L T ++ [⟨T, e⟩] else g.L t } (putN nb e) Fs (fun v => feedN (putN nb e) (v : Int)) [] (othersL (putN nb e) sz) w' := by
  obtain ⟨i1, i2, i3⟩ := h.idle
  have hbl : b < w.ns.length := (List.getElem?_eq_some_iff.1 h.at').1
  have hlast := h.lead.link.last
  have hlen := h.lead.link.len
  have hb1 := h.lead.fine.b1
  have hme := h.lead.me
  have hsm : nb.log.items.length < 256 := by omega
  obtain ⟨f1, f2, f3, f4, f5⟩ := put_facts h.lead.fine hv hsm
  have hmb : nb.me.toNat = b := by omega
  rw [hmb] at f4
  have hszn : nb.size.toNat = sz := by have := h.lead.size; omega
  obtain ⟨g', hg'⟩ : ∃ g' : Gh Item, g' = { g with L := fun t => if t = T then g.L T ++ [⟨T, e⟩] else g.L t } := ⟨_, rfl⟩
  have hgL : g'.L T = g.L T ++ [⟨T, e⟩] := by rw [hg']; exact if_pos rfl
  have hgrow : ∀ l, Grown tmI g l T → Grown tmI g' l T := fun l hl => by rw [hg']; exact grown_add hl
  have htk : ∀ i, i ≤ (g.L T).length → (g'.L T).take i = (g.L T).take i := fun i hi => by rw [hgL, List.take_append_of_le_length hi]
  have hlk := link_put h.lead.link h.lead.fine (e := e)
  rw [h.lead.term, ← hgL] at hlk
  have hoth : ∀ v, v ≠ b → (putN nb e).mat v = nb.mat v ∧ (putN nb e).next v = nb.next v := fun v hvb => by
    refine ⟨?_, ?_⟩
    · show (if v = nb.me.toNat then _ else nb.mat v) = _
      rw [hmb, if_neg hvb]
    · show (if v = nb.me.toNat then _ else nb.next v) = _
      rw [hmb, if_neg hvb]
  have hset : ∀ (u : Nat) (n : Node), u ≠ b → w'.ns[u]? = some n → w.ns[u]? = some n := fun u n hu hx => by
    rw [hns, List.getElem?_set_ne fun h => hu h.symm] at hx
    exact hx
  have hc0 : 0 ≤ (putN nb e).commit ∧ (putN nb e).commit ≤ 1099511627776 := by
    have h1 := f1.c1
    have h2 := f1.b1
    have h3 := f1.c2
    omega
  have hlL : (g'.L T).length = (g.L T).length + 1 := by rw [hgL, List.length_append]; rfl
  have hlead : Lead g' T b sz (putN nb e) := by
    refine ⟨f1, h.lead.me, h.lead.size, h.lead.role, h.lead.ld, h.lead.term, ⟨hlk.len, hlk.it, hlk.bt⟩, f3.trans h.lead.term, f4, f5 sz h.lead.size, fun v hv hvb => ?_⟩
    rw [(hoth v hvb).1, (hoth v hvb).2]
    exact h.lead.mn v hv hvb
  rw [← hg']
  refine ⟨by rw [hns, List.length_set]; exact h.len, h.sz7, by rw [hns, List.getElem?_set_self hbl], hlead, ?_, by omega, fun v n hvb hn => ?_, ?_, (fun _ hk => by cases hk), Nat.zero_le _, ?_, others_nd _ _, fun v hv => ?_, hc0.1, .inl (Int.le_refl _), fun v hv n _ => .inl ⟨(putN nb e).commit, hc0.1, hc0.1, hc0.2, rfl⟩, fun v n hv hvb hn => ?_⟩
  · intro i x hx
    by_cases hi : i < (g.L T).length
    · have hx' := hx
      rw [hgL, List.getElem?_append_left hi] at hx'
      have := hgrow _ h.lg i x hx'
      refine ⟨this.1, this.2.1, ?_⟩
      have h3 := this.2.2
      rwa [← htk (i + 1) (by omega)] at h3
    · have hi2 := (List.getElem?_eq_some_iff.1 hx).1
      have hx' := hx
      rw [hgL, List.getElem?_append_right (by omega)] at hx'
      have h0 : i - (g.L T).length = 0 := by omega
      rw [h0] at hx'
      cases hx'
      refine ⟨Int.le_refl _, ?_, ?_⟩
      · rw [hg']; exact hld
      · rw [List.take_of_length_le (by omega)]
        exact List.prefix_refl _
  · have h1 := h.fo v n hvb (hset v n hvb hn)
    have hcl := h1.fol.cl
    have hvs : v < sz := by
      have := (List.getElem?_eq_some_iff.1 hn).1
      rw [hns, List.length_set, h.len] at this
      exact this
    have hm := i3 v hvs hvb
    refine ⟨⟨h1.fol.fine, h1.fol.term, h1.fol.link, hgrow _ h1.fol.lm, by omega, by rw [htk _ hcl]; exact h1.fol.com⟩, h1.me, h1.size, h1.role, h1.len, ?_⟩
    have := h1.has
    rw [(hoth v hvb).1, htk _ (by omega)]
    exact this
  · rw [hus]
    unfold feedAllK
    have : (putN nb e).size.toNat = sz := hszn
    rw [this]
    rfl
  · exact Nat.le_trans (others_len _ _) h.sz7
  · obtain ⟨h1, h2⟩ := others_mem hv
    exact ⟨h1, fun he => h2 (by rw [he]; exact hme.symm)⟩
  · have hvs : v < sz := by
      have := (List.getElem?_eq_some_iff.1 hn).1
      rw [hns, List.length_set, h.len] at this
      exact this
    have hmp : (putN nb e).me = (b : Int) := hme
    exact absurd (others_in hvs (by rw [hmp]; omega)) hv
/-- The leader beats. -/
theorem PL.beat (h : PL sz b T 0 g nb Fs q [] [] w) {w' : WA} (hns : w'.ns = w.ns) (hus : w'.us = feedAllK nb) :
    PL sz b T (lastI nb) g nb Fs (fun v => feedN nb (v : Int)) [] (othersL nb sz) w' := by
  obtain ⟨i1, i2, i3⟩ := h.idle
  have hszn : nb.size.toNat = sz := by have := h.lead.size; omega
  have hme := h.lead.me
  have hc0 : 0 ≤ nb.commit ∧ nb.commit ≤ 1099511627776 := by
    have h1 := h.lead.fine.c1
    have h2 := h.lead.fine.b1
    have h3 := h.lead.link.last
    have h4 := h.l240
    omega
  refine ⟨by rw [hns]; exact h.len, h.sz7, by rw [hns]; exact h.at', h.lead, h.lg, h.l240, by rw [hns]; exact h.fo, ?_, (fun _ hk => by cases hk), Nat.zero_le _, Nat.le_trans (others_len _ _) h.sz7, others_nd _ _, fun v hv => ?_, by omega, .inr i3, fun v hv n _ => .inl ⟨nb.commit, by omega, hc0.1, hc0.2, rfl⟩, fun v n hv hvb hn => ?_⟩
  · rw [hus]
    unfold feedAllK
    rw [hszn]
    rfl
  · obtain ⟨h1, h2⟩ := others_mem hv
    exact ⟨h1, fun he => h2 (by rw [he]; exact hme.symm)⟩
  · have hvs : v < sz := by
      have := (List.getElem?_eq_some_iff.1 hn).1
      rw [hns, h.len] at this
      exact this
    exact absurd (others_in hvs (by rw [hme]; omega)) hv
/-- And what is then true of every node. -/
theorem PL.done (h : PL sz b T (lastI nb) g nb Fs q [] [] w) {v : Nat} {n : Node} (hn : w.ns[v]? = some n) : n.commit = (lastN nb.log).1 ∧ n.lead = (b : Int) ∧ n.log.term = nb.log.term := by
  have hll : (lastN nb.log).1 = lastI nb := last_fit h.lead.fine.fit
  rw [hll]
  by_cases hvb : v = b
  · subst hvb
    rw [h.at'] at hn
    cases hn
    exact ⟨h.idle.2.1, h.lead.ld, rfl⟩
  · obtain ⟨_, h2, h3⟩ := h.id v n List.not_mem_nil hvb hn
    have h4 := h.fo v n hvb hn
    have h5 := h4.fol.cl
    have h6 := h.lead.link.last
    have h7 := h4.fol.fine.c1
    have h8 := h4.fol.fine.b1
    exact ⟨by omega, h3, by rw [h4.fol.term, h.lead.term]⟩
end
end Go.Proofs.Ytjpjiniclibgkaa.Sx
