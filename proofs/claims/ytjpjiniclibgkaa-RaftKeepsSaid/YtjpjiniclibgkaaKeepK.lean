/- Rows of memory that are written, and what stays beside them. Then: The law RaftKeeps, walked. The law RaftKeeps holds of the program for every input: what is handed in stays and is not kept; what is answered is its own. Condition: none. -/
import Derived.Test.YtjpjiniclibgkaaKeepJ
import Derived.Test.YtjpjiniclibgkaaKeepI
namespace Go.Proofs.Ytjpjiniclibgkaa.Sx
open Go

abbrev Wrows := List (Option Addr × Nat)
/-- A block that holds one of the rows. -/
def bad (W : Wrows) (b : Nat) : Prop := ∃ r ∈ W, r.2 ≠ 0 ∧ ∃ a, r.1 = some a ∧ a.block = b
/-- Memory in which no more than the rows' blocks differ from what it was. -/
structure Inv (W : Wrows) (m9 mm : Mem) : Prop where
  off : ∀ b, ¬ bad W b → mm b = m9 b
  wh : ∀ r ∈ W, Whole mm r.1 r.2
/-- The memory behind a store. -/
def put (mm : Mem) (b : Nat) (cur : Array Value) (e : TypeId) (o z : Nat) (new : List Value) : Mem := fun k => if k = b then some (.cells (cur.toList.take o ++ (new ++ cur.toList.drop (o + z))).toArray e (0, 0)) else mm k
theorem put_size {cur : Array Value} {o z : Nat} {new : List Value} (ho : o + z ≤ cur.size) (hn : new.length = z) : (cur.toList.take o ++ (new ++ cur.toList.drop (o + z))).toArray.size = cur.size := by
  simp only [List.size_toArray, List.length_append, List.length_take, List.length_drop, Array.length_toList, hn]
  omega
theorem Inv.poke {W : Wrows} {m m9 mm : Mem} (hI : Inv W m9 mm) (hF : ∀ r ∈ W, Fresh m r.1 r.2) {A : Option Addr} {N : Nat} (hr : (A, N) ∈ W) {o z : Nat} (hz : 0 < z) (ho : o + z ≤ N) :
    ∃ b cur e, A = some ⟨b, 0, none⟩ ∧ m b = none ∧ mm b = some (.cells cur e (0, 0)) ∧ o + z ≤ cur.size ∧ ∀ new : List Value, new.length = z → Inv W m9 (put mm b cur e o z new) := by
  rcases hI.wh _ hr with h0 | ⟨b, cur, e, h1, h2, h3⟩
  · have h0 : N = 0 := h0
    omega
  have h1 : A = some ⟨b, 0, none⟩ := h1
  have h3 : N ≤ cur.size := h3
  have hbad : bad W b := ⟨(A, N), hr, by show N ≠ 0; omega, _, h1, rfl⟩
  refine ⟨b, cur, e, h1, ?_, h2, by omega, fun new hn => ⟨fun k hk => ?_, fun r hw => ?_⟩⟩
  · rcases hF _ hr with h0 | hf
    · have h0 : N = 0 := h0
      omega
    · exact hf _ h1
  · have : k ≠ b := fun e => by subst e; exact hk hbad
    exact (if_neg this).trans (hI.off k hk)
  · rcases hI.wh r hw with h0 | ⟨b', cur', e', g1, g2, g3⟩
    · exact .inl h0
    · by_cases hb : b' = b
      · subst hb
        rw [h2] at g2
        cases g2
        exact .inr ⟨b', _, e, g1, if_pos rfl, by rw [put_size (by omega) hn]; exact g3⟩
      · exact .inr ⟨b', cur', e', g1, (if_neg hb).trans g2, g3⟩
theorem mcell_of {m m' : Mem} {a : Addr} (h : m' a.block = m a.block) : mcell m' a = mcell m a := by unfold mcell; rw [h]
theorem add_block (a : Addr) (o : Nat) : (a.add o).block = a.block := by unfold Addr.add; split <;> rfl
/-- The rows lie apart from a row. -/
def Off (W : Wrows) (A : Option Addr) (n : Nat) : Prop := ∀ r ∈ W, Apart A n r.1 r.2
theorem Off.not_bad {W : Wrows} {A : Option Addr} {n : Nat} (h : Off W A n) (hn : 0 < n) {a : Addr} (ha : A = some a) : ¬ bad W a.block := by
  rintro ⟨r, hr, h0, a', ha', hb⟩
  rcases h r hr with h1 | h1 | h1
  · omega
  · exact h0 h1
  · exact h1 a a' ha ha' hb.symm
theorem Inv.cells {W : Wrows} {m9 mm : Mem} (hI : Inv W m9 mm) {A : Option Addr} {xs : List Value} {n : Nat} (hn : xs.length = n) (hc : Cells m9 A xs) (ho : Off W A n) : Cells mm A xs := by
  intro j x hj
  obtain ⟨a, ha, hm⟩ := hc j x hj
  have hjl := (List.getElem?_eq_some_iff.1 hj).1
  refine ⟨a, ha, ?_⟩
  have e := mcell_of (m := m9) (m' := mm) (a := a.add j) (by rw [add_block]; exact hI.off _ (ho.not_bad (by omega) ha))
  rw [e]
  exact hm
theorem Inv.whole {W : Wrows} {m9 mm : Mem} (hI : Inv W m9 mm) {A : Option Addr} {n : Nat} (hw : Whole m9 A n) (ho : Off W A n) : Whole mm A n := by
  by_cases h0 : n = 0
  · exact .inl h0
  rcases hw with h | ⟨b, cur, e, h1, h2, h3⟩
  · exact .inl h
  · exact .inr ⟨b, cur, e, h1, (hI.off b (ho.not_bad (by omega) h1)).trans h2, h3⟩
theorem Inv.said {W : Wrows} {m9 mm : Mem} (hI : Inv W m9 mm) {os : List OMsg} (hs : Said m9 os) (ho : ∀ o ∈ os, Off W o.A o.w) : Said mm os := fun o h =>
  ⟨hI.cells (itemsV_len _) (hs o h).1 (ho o h), (hs o h).2.1, hI.whole (hs o h).2.2 (ho o h)⟩
theorem Inv.base {W : Wrows} {m m9 mm : Mem} (hI : Inv W m9 mm) (hF : ∀ r ∈ W, Fresh m r.1 r.2) (hx : ∀ b o, m b = some o → m9 b = some o) : ∀ b o, m b = some o → mm b = some o := by
  intro b o hb
  have : ¬ bad W b := by
    rintro ⟨r, hr, h0, a, ha, hab⟩
    rcases hF r hr with h1 | h1
    · exact h0 h1
    · have := h1 a ha
      rw [hab, hb] at this
      cases this
  exact (hI.off b this).trans (hx b o hb)
/-- What is still there of a row of messages: from the i-th on. -/
def Rest (mm : Mem) (O : Option Addr) (os : List OMsg) (i : Nat) : Prop := ∀ j x, i * 10 ≤ j → (saidV os)[j]? = some x → ∃ a, O = some a ∧ mcell mm (a.add j) = some x
theorem Rest.of {mm : Mem} {O : Option Addr} {os : List OMsg} (h : Cells mm O (saidV os)) (i : Nat) : Rest mm O os i := fun j x _ hj => h j x hj
theorem said_cell {os : List OMsg} {i : Nat} {o : OMsg} (h : os[i]? = some o) {d : Nat} (hd : d < 10) : (saidV os)[i * 10 + d]? = (msgV o)[d]? := by
  have := congrArg (fun l => l[d]?) (said_at h)
  simp only [List.getElem?_take, List.getElem?_drop, if_pos hd] at this
  exact this
theorem Rest.rd8 {mm : Mem} {O : Option Addr} {os : List OMsg} {i : Nat} (h : Rest mm O os i) {o : OMsg} (ho : os[i]? = some o) {k : Nat} (hk : k = i * 10 + 8) : rdM mm O k 1 [.slice o.A o.k.items.length o.c] := by
  subst hk
  obtain ⟨a, ha, hm⟩ := h (i * 10 + 8) (.slice o.A o.k.items.length o.c) (by omega) (by rw [said_cell ho (by decide)]; rfl)
  refine ⟨a, ha, rfl, fun j u hj => ?_⟩
  cases j with
  | zero => cases hj; exact hm
  | succ j => cases hj
theorem Rest.other {mm : Mem} {O : Option Addr} {os : List OMsg} {i : Nat} (h : Rest mm O os i) {b : Nat} {cur : Array Value} {e : TypeId} {o z : Nat} {new : List Value} (hb : ∀ a, O = some a → 0 < os.length → a.block ≠ b) : Rest (put mm b cur e o z new) O os i := by
  intro j x hi hj
  obtain ⟨a, ha, hm⟩ := h j x hi hj
  have hjl := (List.getElem?_eq_some_iff.1 hj).1
  rw [saidV_len] at hjl
  refine ⟨a, ha, ?_⟩
  have e' := mcell_of (m := mm) (m' := put mm b cur e o z new) (a := a.add j) (by rw [add_block]; exact if_neg (hb a ha (by omega)))
  rw [e']
  exact hm
theorem Rest.own {mm : Mem} {O : Option Addr} {os : List OMsg} {i : Nat} (h : Rest mm O os i) {b : Nat} {cur : Array Value} {e : TypeId} {new : List Value} (hO : O = some ⟨b, 0, none⟩) (hm : mm b = some (.cells cur e (0, 0))) (hs : i * 10 + 10 ≤ cur.size) (hn : new.length = 10) : Rest (put mm b cur e (i * 10) 10 new) O os (i + 1) := by
  intro j x hi hj
  obtain ⟨a, ha, hc⟩ := h j x (by omega) hj
  refine ⟨a, ha, ?_⟩
  rw [hO] at ha
  cases ha
  unfold mcell at hc ⊢
  have e1 : ((⟨b, 0, none⟩ : Addr).add j) = ⟨b, j, none⟩ := by rw [add_base]
  rw [e1] at hc ⊢
  rw [show mm (⟨b, j, none⟩ : Addr).block = some (.cells cur e (0, 0)) from hm] at hc
  rw [show put mm b cur e (i * 10) 10 new (⟨b, j, none⟩ : Addr).block = some _ from if_pos rfl]
  simp only [Option.isSome_none, Bool.false_eq_true, if_false] at hc ⊢
  have hl : (cur.toList.take (i * 10)).length = i * 10 := by rw [List.length_take, Array.length_toList]; omega
  rw [List.getElem?_toArray, List.getElem?_append_right (by omega), hl, List.getElem?_append_right (by omega), hn, List.getElem?_drop]
  have : i * 10 + 10 + (j - i * 10 - 10) = j := by omega
  rw [this]
  simpa using hc
theorem Rest.some {mm : Mem} {O : Option Addr} {os : List OMsg} {i : Nat} (h : Rest mm O os i) (hi : i < os.length) : O.isSome = true := by
  have hl := saidV_len os
  obtain ⟨a, ha, _⟩ := h (i * 10) ((saidV os)[i * 10]'(by omega)) (Nat.le_refl _) (List.getElem?_eq_getElem _)
  rw [ha]; rfl
theorem Rest.up {mm : Mem} {O : Option Addr} {os : List OMsg} {i k : Nat} (h : Rest mm O os i) (hk : i ≤ k) : Rest mm O os k := fun j x hj hx => h j x (by omega) hx
theorem at_base {A : Option Addr} {b o i : Nat} (h : A = some ⟨b, 0, none⟩) (ho : o = i) : A.map (·.add o) = some ⟨b, i, none⟩ := by
  subst h ho
  simp only [Option.map_some, add_base]
theorem Apart.ne {A O : Option Addr} {N b : Nat} {os : List OMsg} (h : Apart A N O (os.length * 10)) (hA : A = some ⟨b, 0, none⟩) (hN : 0 < N) : ∀ a, O = some a → 0 < os.length → a.block ≠ b := by
  intro a ha hl hb
  rcases h with h | h | h
  · omega
  · omega
  · exact h _ a hA ha hb.symm
/-- An item of a row is written. -/
theorem Inv.item {W : Wrows} {m m9 mm : Mem} (hI : Inv W m9 mm) (hF : ∀ r ∈ W, Fresh m r.1 r.2) {A : Option Addr} {len : Nat} (hr : (A, len * 6) ∈ W) {j : Nat} (hj : j < len) :
    ∃ b cur e, A = some ⟨b, 0, none⟩ ∧ m b = none ∧ mm b = some (.cells cur e (0, 0)) ∧ j * 6 + 6 ≤ cur.size ∧ ∀ new : List Value, new.length = 6 → Inv W m9 (put mm b cur e (j * 6) 6 new) ∧ ∀ O os i, Apart A (len * 6) O (os.length * 10) → Rest mm O os i → Rest (put mm b cur e (j * 6) 6 new) O os i := by
  obtain ⟨b, cur, e, h1, h2, h3, h4, h5⟩ := hI.poke hF hr (o := j * 6) (z := 6) (by decide) (by omega)
  exact ⟨b, cur, e, h1, h2, h3, h4, fun new hn => ⟨h5 new hn, fun O os i ha hR => hR.other (ha.ne h1 (by omega))⟩⟩
/-- A message of a row is written. -/
theorem Inv.msg {W : Wrows} {m m9 mm : Mem} (hI : Inv W m9 mm) (hF : ∀ r ∈ W, Fresh m r.1 r.2) {O : Option Addr} {os : List OMsg} (hr : (O, os.length * 10) ∈ W) {i : Nat} (hi : i < os.length) (hR : Rest mm O os i) :
    ∃ b cur e, O = some ⟨b, 0, none⟩ ∧ m b = none ∧ mm b = some (.cells cur e (0, 0)) ∧ i * 10 + 10 ≤ cur.size ∧ ∀ new : List Value, new.length = 10 → Inv W m9 (put mm b cur e (i * 10) 10 new) ∧ Rest (put mm b cur e (i * 10) 10 new) O os (i + 1) ∧
      ∀ O' os' i', Apart O (os.length * 10) O' (os'.length * 10) → Rest mm O' os' i' → Rest (put mm b cur e (i * 10) 10 new) O' os' i' := by
  obtain ⟨b, cur, e, h1, h2, h3, h4, h5⟩ := hI.poke hF hr (o := i * 10) (z := 10) (by decide) (by omega)
  exact ⟨b, cur, e, h1, h2, h3, h4, fun new hn => ⟨h5 new hn, hR.own h1 h3 h4 hn, fun O' os' i' ha hR' => hR'.other (ha.ne h1 (by omega))⟩⟩
def zero44 : List SV := [.i .i64 0, .i .i64 0, .i .i64 0, .i .i64 0, .i .i64 0, .s ByteArray.empty]
def zero29 : List SV := [.i .i64 0, .i .i64 0, .i .i64 0, .i .i64 0, .i .i64 0, .i .i64 0, .i .i64 0, .b false, .sl none 0 0, .s ByteArray.empty]
def nil44 : List Value := dens η0 zero44
def nil29 : List Value := dens η0 zero29
end Go.Proofs.Ytjpjiniclibgkaa.Sx

namespace Go.Proofs.Ytjpjiniclibgkaa.Sx
open Go

theorem step_l (n : Node) (k : Msg) : (stepR n k).n.log.items.length ≤ 256 := by
  by_cases h : goodB n = true ∧ soundB n k = true
  · exact (step_onto (fine_iff.1 h.1) (heard_iff.1 h.2)).1.l
  · unfold stepR; rw [if_neg h]; decide
theorem beat_l (n : Node) : (beatR n).n.log.items.length ≤ 256 := by
  by_cases h : goodB n = true
  · rw [(beat_onto (fine_iff.1 h)).1]; exact (fine_iff.1 h).l
  · unfold beatR; rw [if_neg h]; decide
def x71 : Item := ⟨71, ⟨0, 0, 0, 0, ByteArray.empty⟩⟩
theorem full_row (xs : List Item) : List.take ((0 + xs.length) * 6) (List.take (0 * 6) [] ++ itemsV xs) ++ List.take (1 * 6) (itemV x71) = itemsV (xs ++ [x71]) := by
  have h1 : (List.take (0 * 6) ([] : List Value) ++ itemsV xs) = itemsV xs := by simp
  have h2 : itemsV [x71] = itemV x71 := by simp [itemsV]
  have h3 : List.take (1 * 6) (itemV x71) = itemV x71 := rfl
  rw [h1, h3, itemsV_append, h2, List.take_of_length_le (by rw [itemsV_len]; omega)]
/-- The blocks that are looked at later on. -/
structure KpG where
  n : Node
  A : Option Addr
  c : Nat
  k : Msg
  D : Option Addr
  e : Nat
  M : Option Addr
  cM : Nat
  F : Option Addr
  cF : Nat
  b1 : StepB
  b3 : StepB
  b5 : StepB
def nB (b : StepB) : List SV := nodeC b.n (.sl b.A b.n.log.items.length b.c)
def kpH : KpG → Heap := fun ⟨n, A, c, k, D, e, M, cM, _, _, b1, b3, b5⟩ => [(0, .st 27 (nodeC n (.sl A n.log.items.length c))), (1, .st 29 (msgC k (.sl D k.items.length e))), (2, .st 27 (nodeC n (.sl M n.log.items.length cM))), (3, .st 27 (nB b1)), (4, .st 27 (nB b3)), (5, .st 27 (nB b5)), (6, .st 27 (nodeC b3.n (.rw 7 b3.n.log.items.length))), (7, .row 44 6 b3.n.log.items.length (itemsV b3.n.log.items))]
def kpT : KpG → List Slot := fun ⟨_, _, _, k, _, _, _, _, F, cF, b1, b3, b5⟩ => [⟨2, [], .p 0 0⟩, ⟨3, [], .p 1 0⟩, ⟨5, [], .p 2 0⟩, ⟨6, [], .sl F (0 + k.items.length + 1) cF⟩, ⟨8, [], .p 3 0⟩, ⟨9, [], .sl b1.O b1.os.length b1.oc⟩, ⟨11, [], .p 4 0⟩, ⟨12, [], .sl b3.O b3.os.length b3.oc⟩, ⟨14, [], .p 5 0⟩, ⟨15, [], .sl b5.O b5.os.length b5.oc⟩, ⟨17, [], .p 6 0⟩]
def rowsO (b : StepB) : Wrows := (b.A, b.n.log.items.length * 6) :: (b.O, b.os.length * 10) :: b.os.map fun o => (o.A, o.w)
def rowsM (b : StepB) : Wrows := (b.O, b.os.length * 10) :: b.os.map fun o => (o.A, o.w)
def kpW : KpG → Wrows := fun ⟨n, _, _, k, _, _, M, _, F, _, b1, _, b5⟩ => (M, n.log.items.length * 6) :: (F, (0 + k.items.length + 1) * 6) :: (rowsO b1 ++ rowsM b5)
theorem fresh_rows {m mB : Mem} {b : StepB} (h : News mB b) (hx : ∀ x o, m x = some o → mB x = some o) : ∀ r ∈ rowsO b, Fresh m r.1 r.2 := by
  intro r hr
  rcases List.mem_cons.1 hr with rfl | hr
  · exact h.fa.back hx
  rcases List.mem_cons.1 hr with rfl | hr
  · exact h.fo.back hx
  obtain ⟨o, ho, rfl⟩ := List.mem_map.1 hr
  exact (h.fi o ho).back hx
theorem whole_rows {mB mm : Mem} {b : StepB} (h : News mB b) (hs : Said b.m b.os) (hx : ∀ x o, b.m x = some o → mm x = some o) : ∀ r ∈ rowsO b, Whole mm r.1 r.2 := by
  intro r hr
  rcases List.mem_cons.1 hr with rfl | hr
  · exact h.wa.ext hx
  rcases List.mem_cons.1 hr with rfl | hr
  · exact h.wo.ext hx
  obtain ⟨o, ho, rfl⟩ := List.mem_map.1 hr
  exact (hs o ho).2.2.ext hx
theorem off_mid {m2 m4 : Mem} {W1 W2 : Wrows} {A : Option Addr} {n : Nat} (h1 : ∀ r ∈ W1, Whole m2 r.1 r.2) (hf : Fresh m2 A n) (h2 : ∀ r ∈ W2, Fresh m4 r.1 r.2) (hw : Whole m4 A n) : Off (W1 ++ W2) A n := fun r hr =>
  (List.mem_append.1 hr).elim (fun h => (Apart.of (h1 r h) hf).symm) fun h => Apart.of hw (h2 r h)
theorem off_end {m4 : Mem} {W1 W2 : Wrows} {A : Option Addr} {n : Nat} (h1 : ∀ r ∈ W1, Whole m4 r.1 r.2) (hf : Fresh m4 A n) (h2 : ∀ r ∈ W2, Apart A n r.1 r.2) : Off (W1 ++ W2) A n := fun r hr =>
  (List.mem_append.1 hr).elim (fun h => (Apart.of (h1 r h) hf).symm) (h2 r)
theorem rowsM_sub {b : StepB} {r : Option Addr × Nat} (h : r ∈ rowsM b) : r ∈ rowsO b := List.mem_cons_of_mem _ h
set_option maxRecDepth 100000 in
set_option maxHeartbeats 40000000 in
theorem lawKeeps_ok : SpecOk Try.prog 5 lawStepsSpec := by
  refine spec_of_execM (fn := Try.f5) (c := Try.f5.body.getD .skip) (d := 3) (lv := ([0, 1, 2, 3, 4, 5, 6, 7, 8, 9, 11, 12, 14, 15, 17, 18, 20, 21, 22, 23, 24, 25, 26, 27, 28, 32, 35, 99, 108, 109, 110, 121, 122, 123, 124, 128, 129, 130, 137, 138, 139, 157, 158, 159, 169, 170, 171])) (CP := CPm S27) (DP := fun m0 => DPx T1 (CPm S27 m0) ([0, 1, 2, 3, 4, 5, 6, 7, 8, 9, 11, 12, 14, 15, 17, 18, 20, 21, 22, 23, 24, 25, 26, 27, 28, 32, 35, 99, 108, 109, 110, 121, 122, 123, 124, 128, 129, 130, 137, 138, 139, 157, 158, 159, 169, 170, 171])) T1_ok (fun B => CPm_ok S27_all B) (fun B => DPx_okB T1_ok ord (CPm_ok S27_all B)) lawStepsSpec (by rfl) (by rfl) (by rfl) (fun _ => Nat.le_of_ble_eq_true (by kernel_rfl)) ?_
  rintro ⟨n, A, c, k, D, e, m⟩ ⟨⟨hM, hcap, hl⟩, ⟨hD, hde, hkl⟩⟩
  conv => whnf
  refine ⟨m, trivial, ?_⟩
  conv => whnf
  repeat (first | exact trivial | (refine ⟨by first | exact ⟨rfl, rfl, rfl⟩ | rfl | exact ⟨rfl, rfl⟩ | exact ⟨rfl, fun _ _ => rfl⟩ | exact fun _ _ h => h | (intro _ _ h; cases h; done), ?_⟩; conv => whnf))
  intro _ _
  conv => whnf
  refine ⟨fun h => (by cases h), fun _ => ?_⟩
  conv => whnf
  refine ⟨⟨n, A, c, k, D, e, m⟩, ⟨⟨hM, hl⟩, ⟨hD, hkl⟩⟩, ?_⟩
  conv => whnf
  repeat (first | exact trivial | (refine ⟨by first | exact ⟨rfl, rfl, rfl⟩ | rfl | exact ⟨rfl, rfl⟩ | exact ⟨rfl, fun _ _ => rfl⟩ | exact fun _ _ h => h | (intro _ _ h; cases h; done), ?_⟩; conv => whnf))
  intro (hv : Bool) hhv
  conv => whnf
  refine ⟨fun _ => ?_, fun hgo => ?_⟩
  · refine ⟨(), trivial, ?_⟩
    conv => whnf
    repeat (first | exact trivial | exact fun _ _ h => h | (refine ⟨by first | exact ⟨rfl, rfl, rfl⟩ | rfl | exact ⟨rfl, rfl⟩ | exact ⟨rfl, fun _ _ => rfl⟩ | exact fun _ _ h => h | (intro _ _ h; cases h; done), ?_⟩; conv => whnf))
  have hgo : hv = false := hgo
  have hlen := hhv hgo
  conv => whnf
  refine ⟨⟨n.log, A, c, m⟩, ⟨hM, by show n.log.items.length ≤ 2 ^ 40; omega⟩, ?_⟩
  conv => whnf
  repeat (first | exact trivial | (refine ⟨by first | exact ⟨rfl, rfl, rfl⟩ | rfl | exact ⟨rfl, rfl⟩ | exact ⟨rfl, fun _ _ => rfl⟩ | exact fun _ _ h => h | (intro _ _ h; cases h; done), ?_⟩; conv => whnf))
  intro _ _
  conv => whnf
  refine ⟨itemsV k.items, hD.src, ?_⟩
  conv => whnf
  refine ⟨⟨Nat.le_refl _, by show (0 + k.items.length) * 56 ≤ _; omega, by omega⟩, ?_⟩
  conv => whnf
  refine ⟨Nat.le_refl 1, ?_⟩
  conv => whnf
  refine ⟨⟨Nat.le_refl _, by show (0 + k.items.length + 1) * 56 ≤ _; omega, by omega⟩, ?_⟩
  conv => whnf
  conv => whnf
  refine ⟨Nat.le_refl _, ?_⟩
  conv => whnf
  refine ⟨⟨Int.natCast_nonneg _, by omega⟩, ?_⟩
  conv => whnf
  intro M cM mA hSm
  conv => whnf
  intro F cF mB hSf
  conv => whnf
  have hMc : Cells mA M (itemsV n.log.items) := .of_sealed hSm
  have hFr : Cells mB F (itemsV (k.items ++ [x71])) := by rw [← full_row]; exact Cells.of_sealed hSf
  have hMB := hMc.ext hSf.ext
  have hFk : Cells mB F (itemsV k.items) := by have := hFr.takeI k.items.length; rwa [List.take_left' rfl] at this
  have hcM : n.log.items.length ≤ cM := hSm.le
  have hcF : 0 + k.items.length + 1 ≤ cF := hSf.le
  have hxB : ∀ b o, m b = some o → mB b = some o := ext_trans hSm.ext hSf.ext
  have hkn : (k.items.length : Int).toNat = k.items.length := Int.toNat_natCast _
  refine ⟨⟨n, M, cM, k, F, cF, mB⟩, ⟨⟨hMB, hcM, hl⟩, ⟨hFk, by omega, hkl⟩⟩, ?_⟩
  conv => whnf
  repeat (first | exact trivial | (refine ⟨by first | exact ⟨rfl, rfl, rfl⟩ | rfl | exact ⟨rfl, rfl⟩ | exact ⟨rfl, fun _ _ => rfl⟩ | exact fun _ _ h => h | (intro _ _ h; cases h; done) | exact ⟨rfl, hkn, rfl⟩, ?_⟩; conv => whnf))
  rintro ⟨n1, A1, c1, os1, O1, oc1, m1⟩ ⟨hn1, hk1, ⟨hc1, hle1⟩, ⟨ho1, hoc1⟩, hs1, hx1, hN1⟩ m2 hB2 h12
  conv => whnf
  refine ⟨⟨n, M, cM, k, F, cF, m2⟩, ⟨⟨hMB.ext hB2, hcM, hl⟩, ⟨hFk.ext hB2, by omega, hkl⟩⟩, ?_⟩
  conv => whnf
  repeat (first | exact trivial | (refine ⟨by first | exact ⟨rfl, rfl, rfl⟩ | rfl | exact ⟨rfl, rfl⟩ | exact ⟨rfl, fun _ _ => rfl⟩ | exact fun _ _ h => h | (intro _ _ h; cases h; done) | exact ⟨rfl, hkn, rfl⟩, ?_⟩; conv => whnf))
  rintro ⟨n3, A3, c3, os3, O3, oc3, m3⟩ ⟨hn3, hk3, ⟨hc3, hle3⟩, ⟨ho3, hoc3⟩, hs3, hx3, hN3⟩ m4 h24 h34
  conv => whnf
  refine ⟨⟨n, M, cM, m4⟩, ⟨(hMB.ext hB2).ext h24, hcM, hl⟩, ?_⟩
  conv => whnf
  repeat (first | exact trivial | (refine ⟨by first | exact ⟨rfl, rfl, rfl⟩ | rfl | exact ⟨rfl, rfl⟩ | exact ⟨rfl, fun _ _ => rfl⟩ | exact fun _ _ h => h | (intro _ _ h; cases h; done), ?_⟩; conv => whnf))
  rintro ⟨n5, A5, c5, os5, O5, oc5, m5⟩ ⟨hn5, hk5, ⟨hc5, hle5⟩, ⟨ho5, hoc5⟩, hs5, hx5, hN5⟩ m6 h46 h56
  conv => whnf
  have hn1 : n1 = (stepR n k).n := hn1
  have hn3 : n3 = (stepR n k).n := hn3
  have hn5 : n5 = (beatR n).n := hn5
  have hk1 : os1.map (·.k) = (stepR n k).ks := hk1
  have hk3 : os3.map (·.k) = (stepR n k).ks := hk3
  have hk5 : os5.map (·.k) = (beatR n).ks := hk5
  have hl1 : n1.log.items.length ≤ 256 := by rw [hn1]; exact step_l n k
  have hl3 : n3.log.items.length ≤ 256 := by rw [hn3]; exact step_l n k
  have hl5 : n5.log.items.length ≤ 256 := by rw [hn5]; exact beat_l n
  have hx2 := ext_trans hxB hB2
  have hx4 := ext_trans hx2 h24
  have hx6 := ext_trans hx4 h46
  have hM6 := hM.ext hx6
  have hD6 := hD.ext hx6
  have hMM := ((hMB.ext hB2).ext h24).ext h46
  have hFF := ((hFr.ext hB2).ext h24).ext h46
  have hFk6 := ((hFk.ext hB2).ext h24).ext h46
  refine Or.inr ⟨[0,1,2], sc5_13, by kernel_rfl, ?_⟩
  conv => whnf
  refine ⟨⟨n, M, cM, A, c, m6⟩, ⟨hMM, hM6, hl⟩, ?_⟩
  conv => whnf
  repeat (first | exact trivial | (refine ⟨by first | exact ⟨rfl, rfl, rfl⟩ | rfl | exact ⟨rfl, rfl⟩ | exact ⟨rfl, fun _ _ => rfl⟩ | exact fun _ _ h => h | (intro _ _ h; cases h; done), ?_⟩; conv => whnf))
  intro _ _
  conv => whnf
  refine ⟨fun _ => ⟨Int.natCast_nonneg _, by omega⟩, ?_⟩
  conv => whnf
  refine ⟨fun h => absurd h (by decide), fun _ => ?_⟩
  conv => whnf
  refine ⟨⟨k.items, F, cF, D, e, m6⟩, ⟨hFk6, hD6, hkl⟩, ?_⟩
  conv => whnf
  repeat (first | exact trivial | (refine ⟨by first | exact ⟨rfl, rfl, rfl⟩ | rfl | exact ⟨rfl, rfl⟩ | exact ⟨rfl, fun _ _ => rfl⟩ | exact fun _ _ h => h | (intro _ _ h; cases h; done) | exact ⟨rfl, hkn, rfl⟩, ?_⟩; conv => whnf))
  intro _ _
  conv => whnf
  have hF71 : (k.items ++ [x71])[k.items.length]? = some x71 := by rw [List.getElem?_append_right (Nat.le_refl _), Nat.sub_self]; rfl
  have hFs := hFF.someX hF71
  refine ⟨fun _ => ⟨Int.natCast_nonneg _, by omega, hFs⟩, ?_⟩
  conv => whnf
  refine ⟨fun _ => hFs, ?_⟩
  conv => whnf
  refine ⟨.i .i64 71, ⟨rfl, rfl, fun _ => hFF.rd (o := k.items.length * 6 + 0) (by show (k.items.length : Int).toNat * 6 + 0 = _; rw [hkn]) rfl (by decide) (by rw [itemsV_at hF71 0 1 (by omega)]; rfl)⟩, ?_⟩
  conv => whnf
  refine ⟨fun h => absurd h (by simp), fun _ => ?_⟩
  conv => whnf
  have hc36 := (hc3.ext h34).ext h46
  refine ⟨⟨n3.log, A3, c3, m6⟩, ⟨hc36, by show n3.log.items.length ≤ 2 ^ 40; omega⟩, ?_⟩
  conv => whnf
  repeat (first | exact trivial | (refine ⟨by first | exact ⟨rfl, rfl, rfl⟩ | rfl | exact ⟨rfl, rfl⟩ | exact ⟨rfl, fun _ _ => rfl⟩ | exact fun _ _ h => h | (intro _ _ h; cases h; done), ?_⟩; conv => whnf))
  intro _ _
  conv => whnf
  obtain ⟨b1, hb1⟩ : ∃ b1 : StepB, b1 = ⟨n1, A1, c1, os1, O1, oc1, m1⟩ := ⟨_, rfl⟩
  obtain ⟨b3, hb3⟩ : ∃ b3 : StepB, b3 = ⟨n3, A3, c3, os3, O3, oc3, m3⟩ := ⟨_, rfl⟩
  obtain ⟨b5, hb5⟩ : ∃ b5 : StepB, b5 = ⟨n5, A5, c5, os5, O5, oc5, m5⟩ := ⟨_, rfl⟩
  obtain ⟨g, hg⟩ : ∃ g : KpG, g = ⟨n, A, c, k, D, e, M, cM, F, cF, b1, b3, b5⟩ := ⟨_, rfl⟩
  have hx16 := ext_trans h12 (ext_trans h24 h46)
  have hx36 := ext_trans h34 h46
  have hF : ∀ r ∈ kpW g, Fresh m r.1 r.2 := by
    rw [hg, hb1, hb5]
    intro r hr
    rcases List.mem_cons.1 hr with rfl | hr
    · exact Fresh.of_sealed hSm
    rcases List.mem_cons.1 hr with rfl | hr
    · exact (Fresh.of_sealed hSf).back hSm.ext
    rcases List.mem_append.1 hr with hr | hr
    · exact fresh_rows hN1 hxB r hr
    · exact fresh_rows hN5 hx4 r (rowsM_sub hr)
  have hI : Inv (kpW g) m6 m6 := by
    refine ⟨fun _ _ => rfl, ?_⟩
    rw [hg, hb1, hb5]
    intro r hr
    rcases List.mem_cons.1 hr with rfl | hr
    · exact (Whole.of_sealed hSm).ext (ext_trans hSf.ext (ext_trans hB2 (ext_trans h24 h46)))
    rcases List.mem_cons.1 hr with rfl | hr
    · exact (Whole.of_sealed hSf).ext (ext_trans hB2 (ext_trans h24 h46))
    rcases List.mem_append.1 hr with hr | hr
    · exact whole_rows hN1 hs1 hx16 r hr
    · exact whole_rows hN5 hs5 h56 r (rowsM_sub hr)
  have hW1 : (A1, n1.log.items.length * 6) ∈ kpW g := by rw [hg, hb1]; exact List.mem_cons_of_mem _ (List.mem_cons_of_mem _ (List.mem_append_left _ (List.mem_cons_self ..)))
  have hR1 : Rest m6 O1 os1 0 := Rest.of (ho1.ext hx16) 0
  have hR5 : Rest m6 O5 os5 0 := Rest.of (ho5.ext h56) 0
  have hA15 : Apart A1 (n1.log.items.length * 6) O5 (os5.length * 10) := Apart.of (hN1.wa.ext (ext_trans h12 h24)) hN5.fo
  have hWO1 : (O1, os1.length * 10) ∈ kpW g := by rw [hg, hb1]; exact List.mem_cons_of_mem _ (List.mem_cons_of_mem _ (List.mem_append_left _ (List.mem_cons_of_mem _ (List.mem_cons_self ..))))
  have hWi1 : ∀ o ∈ os1, (o.A, o.w) ∈ kpW g := fun o h => by rw [hg, hb1]; exact List.mem_cons_of_mem _ (List.mem_cons_of_mem _ (List.mem_append_left _ (List.mem_cons_of_mem _ (List.mem_cons_of_mem _ (List.mem_map_of_mem (f := fun o : OMsg => (o.A, o.w)) h)))))
  have hWO5 : (O5, os5.length * 10) ∈ kpW g := by rw [hg, hb5]; exact List.mem_cons_of_mem _ (List.mem_cons_of_mem _ (List.mem_append_right _ (List.mem_cons_self ..)))
  have hWi5 : ∀ o ∈ os5, (o.A, o.w) ∈ kpW g := fun o h => by rw [hg, hb5]; exact List.mem_cons_of_mem _ (List.mem_cons_of_mem _ (List.mem_append_right _ (List.mem_cons_of_mem _ (List.mem_map_of_mem (f := fun o : OMsg => (o.A, o.w)) h))))
  have hO15 : Apart O1 (os1.length * 10) O5 (os5.length * 10) := Apart.of (hN1.wo.ext (ext_trans h12 h24)) hN5.fo
  have hi15 : ∀ o ∈ os1, Apart o.A o.w O5 (os5.length * 10) := fun o h => Apart.of ((hs1 o h).2.2.ext (ext_trans h12 h24)) hN5.fo
  have hsh1 : ∀ o ∈ os1, o.k.items.length ≤ 16 := fun o h => (step_short n k).i o.k (hk1 ▸ List.mem_map_of_mem (f := (·.k)) h)
  have hsh5 : ∀ o ∈ os5, o.k.items.length ≤ 16 := fun o h => (beat_short n).i o.k (hk5 ▸ List.mem_map_of_mem (f := (·.k)) h)
  have hos1 : os1.length ≤ 100 := by have := (step_short n k).l; rw [← hk1, List.length_map] at this; exact this
  have hos5 : os5.length ≤ 100 := by have := (beat_short n).l; rw [← hk5, List.length_map] at this; exact this
  have hWM : (M, n.log.items.length * 6) ∈ kpW g := by rw [hg]; exact List.mem_cons_self ..
  have hWF : (F, (0 + k.items.length + 1) * 6) ∈ kpW g := by rw [hg]; exact List.mem_cons_of_mem _ (List.mem_cons_self ..)
  have hW2 : ∀ r ∈ (M, n.log.items.length * 6) :: (F, (0 + k.items.length + 1) * 6) :: rowsO b1, Whole m2 r.1 r.2 := by
    rw [hb1]
    intro r hr
    rcases List.mem_cons.1 hr with rfl | hr
    · exact (Whole.of_sealed hSm).ext (ext_trans hSf.ext hB2)
    rcases List.mem_cons.1 hr with rfl | hr
    · exact (Whole.of_sealed hSf).ext hB2
    · exact whole_rows hN1 hs1 h12 r hr
  have hW5 : ∀ r ∈ rowsM b5, Fresh m4 r.1 r.2 := fun r hr => by rw [hb5] at hr; exact fresh_rows hN5 (fun _ _ h => h) r (rowsM_sub hr)
  have hoA3 : Off (kpW g) A3 (n3.log.items.length * 6) := by rw [hg]; exact off_mid hW2 hN3.fa hW5 (hN3.wa.ext h34)
  have hoO3 : Off (kpW g) O3 (os3.length * 10) := by rw [hg]; exact off_mid hW2 hN3.fo hW5 (hN3.wo.ext h34)
  have hoS3 : ∀ o ∈ os3, Off (kpW g) o.A o.w := fun o h => by rw [hg]; exact off_mid hW2 (hN3.fi o h) hW5 ((hs3 o h).2.2.ext h34)
  have hoA5 : Off (kpW g) A5 (n5.log.items.length * 6) := by
    rw [hg]
    refine off_end (fun r hr => (hW2 r hr).ext h24) hN5.fa fun r hr => ?_
    rw [hb5] at hr
    rcases List.mem_cons.1 hr with rfl | hr
    · exact hN5.ao
    obtain ⟨o, ho, rfl⟩ := List.mem_map.1 hr
    exact hN5.ai o ho
  obtain ⟨s1, hs1e⟩ : ∃ s1, s1 = n1.log.items.length := ⟨_, rfl⟩
  refine ⟨Nat × Mem, fun x => x.1 ≤ s1 ∧ Inv (kpW g) m6 x.2 ∧ Rest x.2 O1 os1 0 ∧ Rest x.2 O5 os5 0, fun x => ⟨215, ⟨108, [], .i .i64 s1⟩ :: ⟨109, [], .i .i64 x.1⟩ :: kpT ⟨n, A, c, k, D, e, M, cM, F, cF, ⟨n1, A1, c1, os1, O1, oc1, m1⟩, ⟨n3, A3, c3, os3, O3, oc3, m3⟩, ⟨n5, A5, c5, os5, O5, oc5, m5⟩⟩, [], kpH ⟨n, A, c, k, D, e, M, cM, F, cF, ⟨n1, A1, c1, os1, O1, oc1, m1⟩, ⟨n3, A3, c3, os3, O3, oc3, m3⟩, ⟨n5, A5, c5, os5, O5, oc5, m5⟩⟩, 8⟩, fun x => x.2, fun x => s1 - x.1, ⟨(0, m6), rfl, ⟨Nat.zero_le _, hI, hR1, hR5⟩, ?_⟩, ?_⟩
  conv => whnf
  · conv => whnf
    repeat (first | exact trivial | (refine ⟨by first | exact ⟨rfl, rfl, rfl⟩ | rfl | exact ⟨rfl, rfl⟩ | exact ⟨rfl, fun _ _ => rfl⟩ | exact fun _ _ h => h | (intro _ _ h; cases h; done) | exact congrArg Int.ofNat hs1e.symm, ?_⟩; conv => whnf))
  · rintro ⟨i, mm⟩ ⟨hi, hIm, hR1, hR5⟩
    refine ⟨fun hlt => ?_, fun hge => ?_⟩
    conv => whnf
    · have hlt : i < s1 := by have h2 : (i : Int) < (s1 : Int) := of_decide_eq_true hlt; omega
      have hit := hIm.item hF hW1 (j := i) (by omega)
      obtain ⟨b, cur, ee, hA, hmb, hmm, hsz, hput⟩ := hit
      have hp := hput nil44 rfl
      conv => whnf
      refine ⟨⟨Int.natCast_nonneg _, by show (i : Int) < (n1.log.items.length : Int); omega, by show A1.isSome = true; rw [hA]; rfl⟩, ?_⟩
      conv => whnf
      refine ⟨b, i * 6, cur, ee, ⟨at_base hA rfl, hmb, hmm, hsz, rfl⟩, ?_⟩
      conv => whnf
      refine ⟨(i + 1, _), rfl, ⟨⟨hlt, hp.1, hp.2 _ _ _ hN1.ao hR1, hp.2 _ _ _ hA15 hR5⟩, by show s1 - (i + 1) < s1 - i; omega⟩, ?_⟩
      conv => whnf
      repeat (first | exact trivial | (refine ⟨by first | exact ⟨rfl, rfl, rfl⟩ | rfl | exact ⟨rfl, rfl⟩ | exact ⟨rfl, fun _ _ => rfl⟩ | exact fun _ _ h => h | (intro _ _ h; cases h; done) | exact wrapi_succ (by omega), ?_⟩; conv => whnf))
    · conv => whnf
      obtain ⟨rows, hrows⟩ : ∃ rows : List Value, rows = [.slice O1 os1.length oc1, .slice O5 os5.length oc5] := ⟨_, rfl⟩
      refine ⟨Nat × Mem, fun y => y.1 ≤ 2 ∧ Inv (kpW g) m6 y.2 ∧ (y.1 ≤ 0 → Rest y.2 O1 os1 0) ∧ (y.1 ≤ 1 → Rest y.2 O5 os5 0), fun y => ⟨215, ⟨121, [], .rw 8 2⟩ :: ⟨122, [], .i .i64 2⟩ :: ⟨123, [], .i .i64 y.1⟩ :: kpT ⟨n, A, c, k, D, e, M, cM, F, cF, ⟨n1, A1, c1, os1, O1, oc1, m1⟩, ⟨n3, A3, c3, os3, O3, oc3, m3⟩, ⟨n5, A5, c5, os5, O5, oc5, m5⟩⟩, [], (8, .row 32 1 2 rows) :: kpH ⟨n, A, c, k, D, e, M, cM, F, cF, ⟨n1, A1, c1, os1, O1, oc1, m1⟩, ⟨n3, A3, c3, os3, O3, oc3, m3⟩, ⟨n5, A5, c5, os5, O5, oc5, m5⟩⟩, 9⟩, fun y => y.2, fun y => 2 - y.1, ⟨(0, mm), rfl, ⟨Nat.zero_le _, hIm, fun _ => hR1, fun _ => hR5⟩, ?_⟩, ?_⟩
      conv => whnf
      · conv => whnf
        repeat (first | exact trivial | (refine ⟨by first | exact ⟨rfl, rfl, rfl⟩ | rfl | exact ⟨rfl, rfl⟩ | exact ⟨rfl, fun _ _ => rfl⟩ | exact fun _ _ h => h | (intro _ _ h; cases h; done) | exact ⟨rfl, hrows.symm⟩, ?_⟩; conv => whnf))
      clear hR1 hR5 hIm
      rintro ⟨i2, mm⟩ ⟨hi2, hIm, hR1, hR5⟩
      refine ⟨fun hlt => ?_, fun hge => ?_⟩
      conv => whnf
      · have hlt : i2 < 2 := by have h2 : (i2 : Int) < (2 : Int) := of_decide_eq_true hlt; omega
        have hcase : i2 = 0 ∨ i2 = 1 := by omega
        rcases hcase with rfl | rfl
        · conv => whnf
          refine ⟨⟨Int.natCast_nonneg _, by show (((0 : Nat) : Int) < 2); decide, Nat.le_refl _⟩, ?_⟩
          conv => whnf
          refine ⟨.sl O1 (os1).length oc1, ⟨rfl, rfl, rfl, by rw [hrows]; show 0 * 1 + 1 ≤ 2; decide, by rw [hrows]; rfl⟩, ?_⟩
          conv => whnf
          obtain ⟨s, hs⟩ : ∃ s, s = (os1).length := ⟨_, rfl⟩
          refine ⟨Nat × Mem, fun x => x.1 ≤ s ∧ Inv (kpW g) m6 x.2 ∧ Rest x.2 O1 os1 x.1 ∧ Rest x.2 O5 os5 0, fun x => ⟨215, ⟨20, [], .sl O1 s oc1⟩ :: ⟨128, [], .i .i64 s⟩ :: ⟨129, [], .i .i64 x.1⟩ :: ⟨121, [], .rw 8 2⟩ :: ⟨122, [], .i .i64 2⟩ :: ⟨123, [], .i .i64 0⟩ :: kpT ⟨n, A, c, k, D, e, M, cM, F, cF, ⟨n1, A1, c1, os1, O1, oc1, m1⟩, ⟨n3, A3, c3, os3, O3, oc3, m3⟩, ⟨n5, A5, c5, os5, O5, oc5, m5⟩⟩, [], (8, .row 32 1 2 rows) :: kpH ⟨n, A, c, k, D, e, M, cM, F, cF, ⟨n1, A1, c1, os1, O1, oc1, m1⟩, ⟨n3, A3, c3, os3, O3, oc3, m3⟩, ⟨n5, A5, c5, os5, O5, oc5, m5⟩⟩, 9⟩, fun x => x.2, fun x => s - x.1, ⟨(0, mm), rfl, ⟨Nat.zero_le _, hIm, hR1 (Nat.le_refl _), hR5 (Nat.zero_le _)⟩, ?_⟩, ?_⟩
          conv => whnf
          · conv => whnf
            repeat (first | exact trivial | (refine ⟨by first | exact ⟨rfl, rfl, rfl⟩ | rfl | exact ⟨rfl, rfl⟩ | exact ⟨rfl, fun _ _ => rfl⟩ | exact fun _ _ h => h | (intro _ _ h; cases h; done) | exact ⟨rfl, hs.symm, rfl⟩ | exact congrArg Int.ofNat hs.symm, ?_⟩; conv => whnf))
          clear hIm
          rintro ⟨i, mm⟩ ⟨hi, hIm, hRo, hRp⟩
          refine ⟨fun hlt => ?_, fun hge => ?_⟩
          conv => whnf
          · have hlt : i < s := by have h2 : (i : Int) < (s : Int) := of_decide_eq_true hlt; omega
            have hE := getIm (xs := os1) (Nat.lt_of_lt_of_eq hlt hs)
            refine Exists.elim hE fun o ho => ?_
            have hoin := List.mem_of_getElem? ho
            have hOs := hRo.some (Nat.lt_of_lt_of_eq hlt hs)
            conv => whnf
            refine ⟨⟨Int.natCast_nonneg _, by show (i : Int) < (s : Int); omega, hOs⟩, ?_⟩
            conv => whnf
            refine ⟨hOs, ?_⟩
            conv => whnf
            refine ⟨.sl o.A o.k.items.length o.c, ⟨rfl, rfl, hRo.rd8 ho (by dsimp only; rw [Int.toNat_natCast])⟩, ?_⟩
            conv => whnf
            have hE2 : ∃ u, u = o.k.items.length := ⟨_, rfl⟩
            refine Exists.elim hE2 fun u hu => ?_
            refine ⟨Nat × Mem, fun x => x.1 ≤ u ∧ Inv (kpW g) m6 x.2 ∧ Rest x.2 O1 os1 i ∧ Rest x.2 O5 os5 0, fun x => ⟨215, ⟨21, [], .i .i64 i⟩ :: ⟨137, [], .i .i64 u⟩ :: ⟨138, [], .i .i64 x.1⟩ :: ⟨20, [], .sl O1 s oc1⟩ :: ⟨128, [], .i .i64 s⟩ :: ⟨129, [], .i .i64 i⟩ :: ⟨121, [], .rw 8 2⟩ :: ⟨122, [], .i .i64 2⟩ :: ⟨123, [], .i .i64 0⟩ :: kpT ⟨n, A, c, k, D, e, M, cM, F, cF, ⟨n1, A1, c1, os1, O1, oc1, m1⟩, ⟨n3, A3, c3, os3, O3, oc3, m3⟩, ⟨n5, A5, c5, os5, O5, oc5, m5⟩⟩, [], (8, .row 32 1 2 rows) :: kpH ⟨n, A, c, k, D, e, M, cM, F, cF, ⟨n1, A1, c1, os1, O1, oc1, m1⟩, ⟨n3, A3, c3, os3, O3, oc3, m3⟩, ⟨n5, A5, c5, os5, O5, oc5, m5⟩⟩, 9⟩, fun x => x.2, fun x => u - x.1, ⟨(0, mm), rfl, ⟨Nat.zero_le _, hIm, hRo, hRp⟩, ?_⟩, ?_⟩
            conv => whnf
            · conv => whnf
              repeat (first | exact trivial | (refine ⟨by first | exact ⟨rfl, rfl, rfl⟩ | rfl | exact ⟨rfl, rfl⟩ | exact ⟨rfl, fun _ _ => rfl⟩ | exact fun _ _ h => h | (intro _ _ h; cases h; done) | exact congrArg Int.ofNat hu.symm, ?_⟩; conv => whnf))
            clear hIm hRo hRp
            rintro ⟨j, mm⟩ ⟨hj, hIm, hRo, hRp⟩
            refine ⟨fun hlt2 => ?_, fun hge2 => ?_⟩
            conv => whnf
            · have hlt2 : j < u := by have h2 : (j : Int) < (u : Int) := of_decide_eq_true hlt2; omega
              have hit := hIm.item hF (A := o.A) (len := o.k.items.length) (hWi1 o hoin) (j := j) (by omega)
              obtain ⟨b, cur, ee, hA, hmb, hmm, hsz, hput⟩ := hit
              have hp := hput nil44 rfl
              conv => whnf
              refine ⟨⟨Int.natCast_nonneg _, by show (i : Int) < (s : Int); omega, hOs⟩, ?_⟩
              conv => whnf
              refine ⟨hOs, ?_⟩
              conv => whnf
              refine ⟨.sl o.A o.k.items.length o.c, ⟨rfl, rfl, hRo.rd8 ho (by dsimp only; rw [Int.toNat_natCast])⟩, ?_⟩
              conv => whnf
              refine ⟨⟨Int.natCast_nonneg _, by show (j : Int) < (o.k.items.length : Int); omega, by rw [hA]; rfl⟩, ?_⟩
              conv => whnf
              refine ⟨b, j * 6, cur, ee, ⟨at_base hA rfl, hmb, hmm, hsz, rfl⟩, ?_⟩
              conv => whnf
              refine ⟨(j + 1, _), rfl, ⟨⟨hlt2, hp.1, hp.2 _ _ _ ((fun o h => (hN1.oi o h).symm) o hoin) hRo, hp.2 _ _ _ (hi15 o hoin) hRp⟩, by show u - (j + 1) < u - j; omega⟩, ?_⟩
              conv => whnf
              repeat (first | exact trivial | (refine ⟨by first | exact ⟨rfl, rfl, rfl⟩ | rfl | exact ⟨rfl, rfl⟩ | exact ⟨rfl, fun _ _ => rfl⟩ | exact fun _ _ h => h | (intro _ _ h; cases h; done) | exact wrapi_succ (by have := hsh1 o hoin; omega), ?_⟩; conv => whnf))
            · have hit := hIm.msg hF hWO1 (Nat.lt_of_lt_of_eq hlt hs) hRo
              obtain ⟨b, cur, ee, hA, hmb, hmm, hsz, hput⟩ := hit
              have hp := hput nil29 rfl
              conv => whnf
              refine ⟨⟨Int.natCast_nonneg _, by show (i : Int) < (s : Int); omega, hOs⟩, ?_⟩
              conv => whnf
              refine ⟨b, i * 10, cur, ee, ⟨at_base hA rfl, hmb, hmm, hsz, rfl⟩, ?_⟩
              conv => whnf
              refine ⟨(i + 1, _), rfl, ⟨⟨hlt, hp.1, hp.2.1, hp.2.2 _ _ _ hO15 hRp⟩, by show s - (i + 1) < s - i; omega⟩, ?_⟩
              conv => whnf
              repeat (first | exact trivial | (refine ⟨by first | exact ⟨rfl, rfl, rfl⟩ | rfl | exact ⟨rfl, rfl⟩ | exact ⟨rfl, fun _ _ => rfl⟩ | exact fun _ _ h => h | (intro _ _ h; cases h; done) | exact wrapi_succ (by omega), ?_⟩; conv => whnf))
          · conv => whnf
            refine ⟨(0 + 1, mm), rfl, ⟨⟨by show 0 + 1 ≤ 2; decide, hIm, (fun h => absurd h (by show ¬ (0 + 1 ≤ 0); decide)), fun _ => hRp⟩, by show 2 - (0 + 1) < 2 - 0; decide⟩, ?_⟩
            conv => whnf
            repeat (first | exact trivial | (refine ⟨by first | exact ⟨rfl, rfl, rfl⟩ | rfl | exact ⟨rfl, rfl⟩ | exact ⟨rfl, fun _ _ => rfl⟩ | exact fun _ _ h => h | (intro _ _ h; cases h; done), ?_⟩; conv => whnf))
        · conv => whnf
          refine ⟨⟨Int.natCast_nonneg _, by show (((1 : Nat) : Int) < 2); decide, Nat.le_refl _⟩, ?_⟩
          conv => whnf
          refine ⟨.sl O5 (os5).length oc5, ⟨rfl, rfl, rfl, by rw [hrows]; show 1 * 1 + 1 ≤ 2; decide, by rw [hrows]; rfl⟩, ?_⟩
          conv => whnf
          obtain ⟨s, hs⟩ : ∃ s, s = (os5).length := ⟨_, rfl⟩
          refine ⟨Nat × Mem, fun x => x.1 ≤ s ∧ Inv (kpW g) m6 x.2 ∧ Rest x.2 O5 os5 x.1 ∧ Rest x.2 (none : Option Addr) ([] : List OMsg) 0, fun x => ⟨215, ⟨20, [], .sl O5 s oc5⟩ :: ⟨128, [], .i .i64 s⟩ :: ⟨129, [], .i .i64 x.1⟩ :: ⟨121, [], .rw 8 2⟩ :: ⟨122, [], .i .i64 2⟩ :: ⟨123, [], .i .i64 1⟩ :: kpT ⟨n, A, c, k, D, e, M, cM, F, cF, ⟨n1, A1, c1, os1, O1, oc1, m1⟩, ⟨n3, A3, c3, os3, O3, oc3, m3⟩, ⟨n5, A5, c5, os5, O5, oc5, m5⟩⟩, [], (8, .row 32 1 2 rows) :: kpH ⟨n, A, c, k, D, e, M, cM, F, cF, ⟨n1, A1, c1, os1, O1, oc1, m1⟩, ⟨n3, A3, c3, os3, O3, oc3, m3⟩, ⟨n5, A5, c5, os5, O5, oc5, m5⟩⟩, 9⟩, fun x => x.2, fun x => s - x.1, ⟨(0, mm), rfl, ⟨Nat.zero_le _, hIm, hR5 (Nat.le_refl _), (fun _ _ _ h => (by cases h))⟩, ?_⟩, ?_⟩
          conv => whnf
          · conv => whnf
            repeat (first | exact trivial | (refine ⟨by first | exact ⟨rfl, rfl, rfl⟩ | rfl | exact ⟨rfl, rfl⟩ | exact ⟨rfl, fun _ _ => rfl⟩ | exact fun _ _ h => h | (intro _ _ h; cases h; done) | exact ⟨rfl, hs.symm, rfl⟩ | exact congrArg Int.ofNat hs.symm, ?_⟩; conv => whnf))
          clear hIm
          rintro ⟨i, mm⟩ ⟨hi, hIm, hRo, hRp⟩
          refine ⟨fun hlt => ?_, fun hge => ?_⟩
          conv => whnf
          · have hlt : i < s := by have h2 : (i : Int) < (s : Int) := of_decide_eq_true hlt; omega
            have hE := getIm (xs := os5) (Nat.lt_of_lt_of_eq hlt hs)
            refine Exists.elim hE fun o ho => ?_
            have hoin := List.mem_of_getElem? ho
            have hOs := hRo.some (Nat.lt_of_lt_of_eq hlt hs)
            conv => whnf
            refine ⟨⟨Int.natCast_nonneg _, by show (i : Int) < (s : Int); omega, hOs⟩, ?_⟩
            conv => whnf
            refine ⟨hOs, ?_⟩
            conv => whnf
            refine ⟨.sl o.A o.k.items.length o.c, ⟨rfl, rfl, hRo.rd8 ho (by dsimp only; rw [Int.toNat_natCast])⟩, ?_⟩
            conv => whnf
            have hE2 : ∃ u, u = o.k.items.length := ⟨_, rfl⟩
            refine Exists.elim hE2 fun u hu => ?_
            refine ⟨Nat × Mem, fun x => x.1 ≤ u ∧ Inv (kpW g) m6 x.2 ∧ Rest x.2 O5 os5 i ∧ Rest x.2 (none : Option Addr) ([] : List OMsg) 0, fun x => ⟨215, ⟨21, [], .i .i64 i⟩ :: ⟨137, [], .i .i64 u⟩ :: ⟨138, [], .i .i64 x.1⟩ :: ⟨20, [], .sl O5 s oc5⟩ :: ⟨128, [], .i .i64 s⟩ :: ⟨129, [], .i .i64 i⟩ :: ⟨121, [], .rw 8 2⟩ :: ⟨122, [], .i .i64 2⟩ :: ⟨123, [], .i .i64 1⟩ :: kpT ⟨n, A, c, k, D, e, M, cM, F, cF, ⟨n1, A1, c1, os1, O1, oc1, m1⟩, ⟨n3, A3, c3, os3, O3, oc3, m3⟩, ⟨n5, A5, c5, os5, O5, oc5, m5⟩⟩, [], (8, .row 32 1 2 rows) :: kpH ⟨n, A, c, k, D, e, M, cM, F, cF, ⟨n1, A1, c1, os1, O1, oc1, m1⟩, ⟨n3, A3, c3, os3, O3, oc3, m3⟩, ⟨n5, A5, c5, os5, O5, oc5, m5⟩⟩, 9⟩, fun x => x.2, fun x => u - x.1, ⟨(0, mm), rfl, ⟨Nat.zero_le _, hIm, hRo, hRp⟩, ?_⟩, ?_⟩
            conv => whnf
            · conv => whnf
              repeat (first | exact trivial | (refine ⟨by first | exact ⟨rfl, rfl, rfl⟩ | rfl | exact ⟨rfl, rfl⟩ | exact ⟨rfl, fun _ _ => rfl⟩ | exact fun _ _ h => h | (intro _ _ h; cases h; done) | exact congrArg Int.ofNat hu.symm, ?_⟩; conv => whnf))
            clear hIm hRo hRp
            rintro ⟨j, mm⟩ ⟨hj, hIm, hRo, hRp⟩
            refine ⟨fun hlt2 => ?_, fun hge2 => ?_⟩
            conv => whnf
            · have hlt2 : j < u := by have h2 : (j : Int) < (u : Int) := of_decide_eq_true hlt2; omega
              have hit := hIm.item hF (A := o.A) (len := o.k.items.length) (hWi5 o hoin) (j := j) (by omega)
              obtain ⟨b, cur, ee, hA, hmb, hmm, hsz, hput⟩ := hit
              have hp := hput nil44 rfl
              conv => whnf
              refine ⟨⟨Int.natCast_nonneg _, by show (i : Int) < (s : Int); omega, hOs⟩, ?_⟩
              conv => whnf
              refine ⟨hOs, ?_⟩
              conv => whnf
              refine ⟨.sl o.A o.k.items.length o.c, ⟨rfl, rfl, hRo.rd8 ho (by dsimp only; rw [Int.toNat_natCast])⟩, ?_⟩
              conv => whnf
              refine ⟨⟨Int.natCast_nonneg _, by show (j : Int) < (o.k.items.length : Int); omega, by rw [hA]; rfl⟩, ?_⟩
              conv => whnf
              refine ⟨b, j * 6, cur, ee, ⟨at_base hA rfl, hmb, hmm, hsz, rfl⟩, ?_⟩
              conv => whnf
              refine ⟨(j + 1, _), rfl, ⟨⟨hlt2, hp.1, hp.2 _ _ _ ((fun o h => (hN5.oi o h).symm) o hoin) hRo, hp.2 _ _ _ ((fun _ _ => .inr (.inl rfl)) o hoin) hRp⟩, by show u - (j + 1) < u - j; omega⟩, ?_⟩
              conv => whnf
              repeat (first | exact trivial | (refine ⟨by first | exact ⟨rfl, rfl, rfl⟩ | rfl | exact ⟨rfl, rfl⟩ | exact ⟨rfl, fun _ _ => rfl⟩ | exact fun _ _ h => h | (intro _ _ h; cases h; done) | exact wrapi_succ (by have := hsh5 o hoin; omega), ?_⟩; conv => whnf))
            · have hit := hIm.msg hF hWO5 (Nat.lt_of_lt_of_eq hlt hs) hRo
              obtain ⟨b, cur, ee, hA, hmb, hmm, hsz, hput⟩ := hit
              have hp := hput nil29 rfl
              conv => whnf
              refine ⟨⟨Int.natCast_nonneg _, by show (i : Int) < (s : Int); omega, hOs⟩, ?_⟩
              conv => whnf
              refine ⟨b, i * 10, cur, ee, ⟨at_base hA rfl, hmb, hmm, hsz, rfl⟩, ?_⟩
              conv => whnf
              refine ⟨(i + 1, _), rfl, ⟨⟨hlt, hp.1, hp.2.1, hp.2.2 _ _ _ (.inr (.inl rfl)) hRp⟩, by show s - (i + 1) < s - i; omega⟩, ?_⟩
              conv => whnf
              repeat (first | exact trivial | (refine ⟨by first | exact ⟨rfl, rfl, rfl⟩ | rfl | exact ⟨rfl, rfl⟩ | exact ⟨rfl, fun _ _ => rfl⟩ | exact fun _ _ h => h | (intro _ _ h; cases h; done) | exact wrapi_succ (by omega), ?_⟩; conv => whnf))
          · conv => whnf
            refine ⟨(1 + 1, mm), rfl, ⟨⟨by show 1 + 1 ≤ 2; decide, hIm, (fun h => absurd h (by show ¬ (1 + 1 ≤ 0); decide)), fun h => absurd h (by show ¬ (1 + 1 ≤ 1); decide)⟩, by show 2 - (1 + 1) < 2 - 1; decide⟩, ?_⟩
            conv => whnf
            repeat (first | exact trivial | (refine ⟨by first | exact ⟨rfl, rfl, rfl⟩ | rfl | exact ⟨rfl, rfl⟩ | exact ⟨rfl, fun _ _ => rfl⟩ | exact fun _ _ h => h | (intro _ _ h; cases h; done), ?_⟩; conv => whnf))
      clear hR1 hR5 hrows
      conv => whnf
      obtain ⟨s2, hs2⟩ : ∃ s2, s2 = 0 + k.items.length + 1 := ⟨_, rfl⟩
      refine ⟨Nat × Mem, fun x => x.1 ≤ s2 ∧ Inv (kpW g) m6 x.2, fun x => ⟨215, ⟨157, [], .i .i64 s2⟩ :: ⟨158, [], .i .i64 x.1⟩ :: kpT ⟨n, A, c, k, D, e, M, cM, F, cF, ⟨n1, A1, c1, os1, O1, oc1, m1⟩, ⟨n3, A3, c3, os3, O3, oc3, m3⟩, ⟨n5, A5, c5, os5, O5, oc5, m5⟩⟩, [], kpH ⟨n, A, c, k, D, e, M, cM, F, cF, ⟨n1, A1, c1, os1, O1, oc1, m1⟩, ⟨n3, A3, c3, os3, O3, oc3, m3⟩, ⟨n5, A5, c5, os5, O5, oc5, m5⟩⟩, 8⟩, fun x => x.2, fun x => s2 - x.1, ⟨(0, mm), rfl, ⟨Nat.zero_le _, hIm⟩, ?_⟩, ?_⟩
      conv => whnf
      · conv => whnf
        repeat (first | exact trivial | (refine ⟨by first | exact ⟨rfl, rfl, rfl⟩ | rfl | exact ⟨rfl, rfl⟩ | exact ⟨rfl, fun _ _ => rfl⟩ | exact fun _ _ h => h | (intro _ _ h; cases h; done) | exact congrArg Int.ofNat hs2.symm, ?_⟩; conv => whnf))
      clear hIm
      rintro ⟨i, mm⟩ ⟨hi, hIm⟩
      refine ⟨fun hlt => ?_, fun hge => ?_⟩
      conv => whnf
      · have hlt : i < s2 := by have h2 : (i : Int) < (s2 : Int) := of_decide_eq_true hlt; omega
        have hit := hIm.item hF hWF (j := i) (by omega)
        obtain ⟨b, cur, ee, hA, hmb, hmm, hsz, hput⟩ := hit
        have hp := hput nil44 rfl
        conv => whnf
        refine ⟨⟨Int.natCast_nonneg _, by show (i : Int) < ((0 + k.items.length + 1 : Nat) : Int); omega, by show F.isSome = true; rw [hA]; rfl⟩, ?_⟩
        conv => whnf
        refine ⟨b, i * 6, cur, ee, ⟨at_base hA rfl, hmb, hmm, hsz, rfl⟩, ?_⟩
        conv => whnf
        refine ⟨(i + 1, _), rfl, ⟨⟨hlt, hp.1⟩, by show s2 - (i + 1) < s2 - i; omega⟩, ?_⟩
        conv => whnf
        repeat (first | exact trivial | (refine ⟨by first | exact ⟨rfl, rfl, rfl⟩ | rfl | exact ⟨rfl, rfl⟩ | exact ⟨rfl, fun _ _ => rfl⟩ | exact fun _ _ h => h | (intro _ _ h; cases h; done) | exact wrapi_succ (by omega), ?_⟩; conv => whnf))
      conv => whnf
      obtain ⟨s3, hs3e⟩ : ∃ s3, s3 = n.log.items.length := ⟨_, rfl⟩
      refine ⟨Nat × Mem, fun x => x.1 ≤ s3 ∧ Inv (kpW g) m6 x.2, fun x => ⟨215, ⟨169, [], .i .i64 s3⟩ :: ⟨170, [], .i .i64 x.1⟩ :: kpT ⟨n, A, c, k, D, e, M, cM, F, cF, ⟨n1, A1, c1, os1, O1, oc1, m1⟩, ⟨n3, A3, c3, os3, O3, oc3, m3⟩, ⟨n5, A5, c5, os5, O5, oc5, m5⟩⟩, [], kpH ⟨n, A, c, k, D, e, M, cM, F, cF, ⟨n1, A1, c1, os1, O1, oc1, m1⟩, ⟨n3, A3, c3, os3, O3, oc3, m3⟩, ⟨n5, A5, c5, os5, O5, oc5, m5⟩⟩, 8⟩, fun x => x.2, fun x => s3 - x.1, ⟨(0, mm), rfl, ⟨Nat.zero_le _, hIm⟩, ?_⟩, ?_⟩
      conv => whnf
      · conv => whnf
        repeat (first | exact trivial | (refine ⟨by first | exact ⟨rfl, rfl, rfl⟩ | rfl | exact ⟨rfl, rfl⟩ | exact ⟨rfl, fun _ _ => rfl⟩ | exact fun _ _ h => h | (intro _ _ h; cases h; done) | exact congrArg Int.ofNat hs3e.symm, ?_⟩; conv => whnf))
      clear hIm
      rintro ⟨i, mm⟩ ⟨hi, hIm⟩
      refine ⟨fun hlt => ?_, fun hge => ?_⟩
      conv => whnf
      · have hlt : i < s3 := by have h2 : (i : Int) < (s3 : Int) := of_decide_eq_true hlt; omega
        have hit := hIm.item hF hWM (j := i) (by omega)
        obtain ⟨b, cur, ee, hA, hmb, hmm, hsz, hput⟩ := hit
        have hp := hput nil44 rfl
        conv => whnf
        refine ⟨⟨Int.natCast_nonneg _, by show (i : Int) < (n.log.items.length : Int); omega, by show M.isSome = true; rw [hA]; rfl⟩, ?_⟩
        conv => whnf
        refine ⟨b, i * 6, cur, ee, ⟨at_base hA rfl, hmb, hmm, hsz, rfl⟩, ?_⟩
        conv => whnf
        refine ⟨(i + 1, _), rfl, ⟨⟨hlt, hp.1⟩, by show s3 - (i + 1) < s3 - i; omega⟩, ?_⟩
        conv => whnf
        repeat (first | exact trivial | (refine ⟨by first | exact ⟨rfl, rfl, rfl⟩ | rfl | exact ⟨rfl, rfl⟩ | exact ⟨rfl, fun _ _ => rfl⟩ | exact fun _ _ h => h | (intro _ _ h; cases h; done) | exact wrapi_succ (by omega), ?_⟩; conv => whnf))
      have hbase := hIm.base hF hx6
      have hc3m := hIm.cells (itemsV_len _) hc36 hoA3
      have ho3m := hIm.cells (saidV_len _) (ho3.ext hx36) hoO3
      have hs3m := hIm.said (hs3.ext hx36) hoS3
      have hc5m := hIm.cells (itemsV_len _) (hc5.ext h56) hoA5
      conv => whnf
      refine ⟨⟨n, A, c, k, D, e, mm⟩, ⟨⟨hM.ext hbase, hcap, hl⟩, ⟨hD.ext hbase, hde, hkl⟩⟩, ?_⟩
      conv => whnf
      repeat (first | exact trivial | (refine ⟨by first | exact ⟨rfl, rfl, rfl⟩ | rfl | exact ⟨rfl, rfl⟩ | exact ⟨rfl, fun _ _ => rfl⟩ | exact fun _ _ h => h | (intro _ _ h; cases h; done), ?_⟩; conv => whnf))
      rintro ⟨n7, A7, c7, os7, O7, oc7, m7⟩ ⟨hn7, hk7, ⟨hc7, hle7⟩, ⟨ho7, hoc7⟩, hs7, hx7⟩ m8 h68 h78
      have hn7 : n7 = (stepR n k).n := hn7
      have hk7 : os7.map (·.k) = (stepR n k).ks := hk7
      obtain rfl : n7 = n3 := hn7.trans hn3.symm
      conv => whnf
      refine ⟨⟨n, A, c, m8⟩, ⟨(hM.ext hbase).ext h68, hcap, hl⟩, ?_⟩
      conv => whnf
      repeat (first | exact trivial | (refine ⟨by first | exact ⟨rfl, rfl, rfl⟩ | rfl | exact ⟨rfl, rfl⟩ | exact ⟨rfl, fun _ _ => rfl⟩ | exact fun _ _ h => h | (intro _ _ h; cases h; done), ?_⟩; conv => whnf))
      rintro ⟨n9, A9, c9, os9, O9, oc9, m9⟩ ⟨hn9, hk9, ⟨hc9, hle9⟩, ⟨ho9, hoc9⟩, hs9, hx9⟩ m10 h8 h9
      have hn9 : n9 = (beatR n).n := hn9
      obtain rfl : n9 = n5 := hn9.trans hn5.symm
      have hx10 := ext_trans h68 h8
      have hc3e := hc3m.ext hx10
      have hc7e := (hc7.ext h78).ext h8
      have hc9e := hc9.ext h9
      have hc5e := hc5m.ext hx10
      have ho3e := ho3m.ext hx10
      have hs3e := hs3m.ext hx10
      have ho7e := (ho7.ext h78).ext h8
      have hs7e := (hs7.ext h78).ext h8
      have hend := ext_trans hbase hx10
      conv => whnf
      intro Aw cw mw hSw
      have hcw : Cells mw Aw (itemsV n7.log.items) := .of_sealed hSw
      conv => whnf
      refine ⟨⟨n7, A3, c3, Aw, cw, mw⟩, ⟨hc3e.ext hSw.ext, hcw, by show n7.log.items.length < 2 ^ 62; omega⟩, ?_⟩
      conv => whnf
      repeat (first | exact trivial | (refine ⟨by first | exact ⟨rfl, rfl, rfl⟩ | rfl | exact ⟨rfl, rfl⟩ | exact ⟨rfl, fun _ _ => rfl⟩ | exact fun _ _ h => h | (intro _ _ h; cases h; done), ?_⟩; conv => whnf))
      intro _ _
      conv => whnf
      refine ⟨fun _ => ?_, fun h => (by cases h)⟩
      conv => whnf
      refine ⟨⟨n7, A3, c3, A7, c7, m10⟩, ⟨hc3e, hc7e, by show n7.log.items.length < 2 ^ 62; omega⟩, ?_⟩
      conv => whnf
      repeat (first | exact trivial | (refine ⟨by first | exact ⟨rfl, rfl, rfl⟩ | rfl | exact ⟨rfl, rfl⟩ | exact ⟨rfl, fun _ _ => rfl⟩ | exact fun _ _ h => h | (intro _ _ h; cases h; done), ?_⟩; conv => whnf))
      intro _ _
      conv => whnf
      refine ⟨fun _ => ?_, fun h => (by cases h)⟩
      conv => whnf
      have hsh := step_short n k
      refine ⟨⟨(stepR n k).ks, os3, O3, oc3, os7, O7, oc7, m10⟩, ⟨⟨hk3, hk7⟩, ⟨ho3e, hs3e⟩, ⟨ho7e, hs7e⟩, Nat.lt_of_le_of_lt hsh.l (by decide), fun j hj => Nat.lt_of_le_of_lt (hsh.i j hj) (by decide)⟩, ?_⟩
      conv => whnf
      repeat (first | exact trivial | (refine ⟨by first | exact ⟨rfl, rfl, rfl⟩ | rfl | exact ⟨rfl, rfl⟩ | exact ⟨rfl, fun _ _ => rfl⟩ | exact fun _ _ h => h | (intro _ _ h; cases h; done), ?_⟩; conv => whnf))
      intro _ _
      conv => whnf
      refine ⟨fun _ => ?_, fun h => (by cases h)⟩
      conv => whnf
      refine ⟨fun he => ?_, fun he => ?_⟩
      · refine ⟨(), trivial, ?_⟩
        conv => whnf
        repeat (first | exact trivial | exact fun _ _ h => h | (refine ⟨by first | exact ⟨rfl, rfl, rfl⟩ | rfl | exact ⟨rfl, rfl⟩ | exact ⟨rfl, fun _ _ => rfl⟩ | exact fun _ _ h => h | (intro _ _ h; cases h; done) | exact he, ?_⟩; conv => whnf))
        exact hend
      · conv => whnf
        refine ⟨⟨n9, A5, c5, A9, c9, m10⟩, ⟨hc5e, hc9e, by show n9.log.items.length < 2 ^ 62; omega⟩, ?_⟩
        conv => whnf
        repeat (first | exact trivial | (refine ⟨by first | exact ⟨rfl, rfl, rfl⟩ | rfl | exact ⟨rfl, rfl⟩ | exact ⟨rfl, fun _ _ => rfl⟩ | exact fun _ _ h => h | (intro _ _ h; cases h; done), ?_⟩; conv => whnf))
        intro _ _
        conv => whnf
        refine ⟨(), trivial, ?_⟩
        conv => whnf
        repeat (first | exact trivial | exact fun _ _ h => h | (refine ⟨by first | exact ⟨rfl, rfl, rfl⟩ | rfl | exact ⟨rfl, rfl⟩ | exact ⟨rfl, fun _ _ => rfl⟩ | exact fun _ _ h => h | (intro _ _ h; cases h; done), ?_⟩; conv => whnf))
        exact hend
end Go.Proofs.Ytjpjiniclibgkaa.Sx

namespace Go.Proofs.Ytjpjiniclibgkaa.Keeps
open Go Go.ChangeShapes Go.WideShapes Go.ChangeAt Go.RowKit Sx

theorem contract (H : Type) (enc : TypeId × Value → H) (W : World) (base : Nat) (args : Array Value) (ds gs : List (DataW H)) (before : List MemPlace)
    (hval : ∀ (j : Nat) t v, Try.f5.params[j]? = some t → args[j]? = some v → Value.okWide Try.prog W .any base t v)
    (hW : DataW.Whole enc Try.prog Try.f5.params.toList Rows.raftKeepsSpec.vars false W args.toList ds gs before) (hw : (DataW.weightsEach Try.prog (Try.f5.params.toList ++ (OpenSpec.ofChange Rows.raftKeepsSpec).bare.plain.varTypes Try.prog) (ds ++ gs)).all (· ≤ reachBytes) = true) :
    Calls Try.prog 5 args W fun e W' => ∃ v, e = .returned v ∧ Rows.raftKeepsSpec.post enc Try.prog Try.f5 false true false false W args v W' := by
  have hW' := hW
  obtain ⟨p, q, hA0, hV, rfl, hfz, hnd⟩ := hW
  have hA : DataW.TrodAll enc Try.prog W 0 (fun _ => true) true Try.f5.params.toList args.toList ds p := hA0
  rw [Try.params5] at hA hval
  obtain ⟨v0, vs0, d0, ds0, p0, q0, hargs, rfl, rfl, h0, r0⟩ := trodAll_cons hA
  obtain ⟨v1, vs1, d1, ds1, p1, q1, rfl, rfl, rfl, h1, r1⟩ := trodAll_cons r0
  obtain ⟨rfl, rfl, rfl⟩ := trodAll_nil r1
  obtain rfl : args = #[v0, v1] := by cases args; simp_all
  rw [Try.params5] at hw
  simp only [List.cons_append, List.nil_append, DataW.weightsEach, List.all_append, Bool.and_eq_true] at hw
  obtain ⟨cs0, rfl⟩ := agg_of und27 (hval 0 27 v0 rfl rfl)
  obtain ⟨fu0, ht0⟩ := h0
  obtain ⟨n0, A0, c0, he0, hM0, hc0, hl0, hb0, hm0, hs0⟩ := open_node ht0 hw.1
  obtain ⟨cs1, rfl⟩ := agg_of und29 (hval 1 29 v1 rfl rfl)
  obtain ⟨fu1, ht1⟩ := h1
  obtain ⟨k1, A1, c1, he1, hM1, hc1, hl1⟩ := open_msg ht1 hw.2.1
  refine (law_calls lawKeeps_ok ⟨n0, A0, c0, k1, A1, c1, allMem W⟩ ⟨⟨hM0, hc0, hl0⟩, ⟨hM1, hc1, hl1⟩⟩ (fun _ _ h => h) rfl (by have hz0 := arr_of (cs := cs0) he0; have hz1 := arr_of (cs := cs1) he1; rw [hz0, hz1]; rfl) fun _ => rfl).mono fun e W' ⟨he, hbl⟩ => ⟨_, he, ?_⟩
  exact law_post hbl laidOut (by rw [Try.params5]; intro t ht; simp only [List.mem_cons, List.not_mem_nil, or_false] at ht; rcases ht with rfl | rfl <;> exact ⟨by kernel_rfl, of_decide_eq_true (by kernel_rfl)⟩) (by kernel_rfl) und4 rfl
    (fun ds hd => by rw [Try.params5] at hd; match ds, hd with | [_, _], _ => rfl) hW'

theorem reads (os : Os) {H : Type} (enc : TypeId × Value → H) : ∃ places, DataW.whole enc Try.prog ((laidWorld os).forCall (fun _ _ => 0) ⟨#[], #[.agg #[.int .i64 0, .int .i64 0, .int .i64 0, .int .i64 0, .int .i64 0, .int .i64 0, .string ByteArray.empty, .slice none 0 0, .int .i64 0, .int .i64 0, .int .i64 0, .int .i64 0, .int .i64 0, .int .i64 0, .int .i64 0, .int .i64 0, .int .i64 0, .int .i64 0, .int .i64 0, .int .i64 0, .int .i64 0, .int .i64 0, .int .i64 0, .int .i64 0, .int .i64 0, .int .i64 0], .agg #[.int .i64 0, .int .i64 0, .int .i64 0, .int .i64 0, .int .i64 0, .int .i64 0, .int .i64 0, .bool false, .slice none 0 0, .string ByteArray.empty]], []⟩).memory Try.f5.params.toList Rows.raftKeepsSpec.vars false (#[.agg #[.int .i64 0, .int .i64 0, .int .i64 0, .int .i64 0, .int .i64 0, .int .i64 0, .string ByteArray.empty, .slice none 0 0, .int .i64 0, .int .i64 0, .int .i64 0, .int .i64 0, .int .i64 0, .int .i64 0, .int .i64 0, .int .i64 0, .int .i64 0, .int .i64 0, .int .i64 0, .int .i64 0, .int .i64 0, .int .i64 0, .int .i64 0, .int .i64 0, .int .i64 0, .int .i64 0], .agg #[.int .i64 0, .int .i64 0, .int .i64 0, .int .i64 0, .int .i64 0, .int .i64 0, .int .i64 0, .bool false, .slice none 0 0, .string ByteArray.empty]] : Array Value).toList 8 = some ([.agg [.lit (.int .i64 0), .lit (.int .i64 0), .agg [.lit (.int .i64 0), .lit (.int .i64 0), .lit (.int .i64 0), .lit (.int .i64 0), .lit (.string []), .nil], .lit (.int .i64 0), .lit (.int .i64 0), .lit (.int .i64 0), .lit (.int .i64 0), .agg [.lit (.int .i64 0), .lit (.int .i64 0), .lit (.int .i64 0), .lit (.int .i64 0), .lit (.int .i64 0), .lit (.int .i64 0), .lit (.int .i64 0)], .agg [.lit (.int .i64 0), .lit (.int .i64 0), .lit (.int .i64 0), .lit (.int .i64 0), .lit (.int .i64 0), .lit (.int .i64 0), .lit (.int .i64 0)]], .agg [.lit (.int .i64 0), .lit (.int .i64 0), .lit (.int .i64 0), .lit (.int .i64 0), .lit (.int .i64 0), .lit (.int .i64 0), .lit (.int .i64 0), .lit (.bool false), .nil, .lit (.string [])]], [], places) :=
  ⟨[], by kernel_rfl⟩
set_option maxRecDepth 100000 in
theorem lifted (os : Os) (started : os.Started) (H : Type) (enc : TypeId × Value → H) (F : Stop.Interp) :
    ReturnsInHanded {} Try.checked os 5 .any ((OpenSpec.ofChange Rows.raftKeepsSpec).preRow enc Try.prog Try.f5 Rows.raftKeepsRow.domain false Rows.raftKeepsRow.laid) (((OpenSpec.ofChange Rows.raftKeepsSpec).at F).post enc Try.prog Try.f5 false true false false) := by
  obtain ⟨places, hx⟩ := reads os enc
  refine returnsInHanded_of_row (C := Try.checked) (s := OpenSpec.ofChange Rows.raftKeepsSpec) own started (by kernel_rfl) Try.func5
    (witness_row_at (enc := enc) (C := Try.checked) false (laidWorld os) #[.agg #[.int .i64 0, .int .i64 0, .int .i64 0, .int .i64 0, .int .i64 0, .int .i64 0, .string ByteArray.empty, .slice none 0 0, .int .i64 0, .int .i64 0, .int .i64 0, .int .i64 0, .int .i64 0, .int .i64 0, .int .i64 0, .int .i64 0, .int .i64 0, .int .i64 0, .int .i64 0, .int .i64 0, .int .i64 0, .int .i64 0, .int .i64 0, .int .i64 0, .int .i64 0, .int .i64 0], .agg #[.int .i64 0, .int .i64 0, .int .i64 0, .int .i64 0, .int .i64 0, .int .i64 0, .int .i64 0, .bool false, .slice none 0 0, .string ByteArray.empty]] rfl (by kernel_rfl) (by kernel_rfl) (by kernel_rfl)
      (OpenSpec.preRow_of_cond 8 hx (by kernel_rfl) (fun k hk => by cases hk) (by kernel_rfl) (laid_none os _))) ?_
  intro W base args ds gs before hval hW _ _ hw hL _ _
  exact contract H enc W base args ds gs before hval hW hw
theorem said : Rows.RaftKeepsSaid :=
  OpenClaim.holds_of_cond 5 Try.f5 rfl rfl rfl rfl rfl rfl rfl ⟨rfl, rfl, rfl, rfl, rfl⟩ rfl rfl rfl rfl rfl (by kernel_rfl) Try.func5 (by kernel_rfl)
    (of_decide_eq_true (by kernel_rfl)) (by unfold Func.isWrapper; first | (rw [if_pos (by decide +kernel)]; kernel_rfl) | (rw [if_neg (by decide +kernel)]; exact ⟨rfl, rfl⟩))
    (fun os started H enc _ F => by rw [OpenClaim.pre_eq_preRow]; exact lifted os started H enc F)
end Go.Proofs.Ytjpjiniclibgkaa.Keeps
