/- What the statements' functions answer: CrcPieces. -/
import Derived.Test.YtaeoibnbbpgajaaDoorCrcE
namespace Go.Proofs.YtaeoibnbbpgajaaDoor.Sx
open Go

/-- What a row of numbers reads as. -/
def Ints (m : Mem) (A : Option Addr) (l : List Int) : Prop := ∀ j z, l[j]? = some z → ∃ a, A = some a ∧ mcell m (a.add j) = some (.int .i64 z)
structure PieceG where
  A : Option Addr
  c : Nat
  l : List (BitVec 8)
  B : Option Addr
  d : Nat
  zs : List Int
  m : Mem
def lawPieces : Spec where
  A := PieceG
  R := fun ⟨A, c, l, B, _, zs, m⟩ => Bytes m A l ∧ Ints m B zs ∧ Tabs m ∧ l.length ≤ 1048576 ∧ zs.length ≤ 1048576 ∧ l.length ≤ c
  J := fun ⟨_, _, _, _, _, _, m⟩ => m
  args := fun ⟨A, c, l, B, d, zs, _⟩ => [.sl A l.length c, .sl B zs.length d]
  h := fun _ => []
  nx := 0
  Bb := Unit
  C := fun _ _ => True
  out := fun _ _ => lawOut
  h2 := fun _ _ => []
  nx2 := 0
/-- A piece: where it lies, and what it holds. -/
abbrev Piece := Option Addr × Nat × List (BitVec 8)
def pv (p : Piece) : Value := .slice p.1 p.2.2.length p.2.1
/-- A part of a row. -/
def cutA (A : Option Addr) (c p : Nat) : Option Addr := if c = p then A else A.map (·.add (p * 1))
theorem Bytes.cut {m : Mem} {A : Option Addr} {l : List (BitVec 8)} (h : Bytes m A l) {c : Nat} (hc : l.length ≤ c) (p k : Nat) : Bytes m (cutA A c p) ((l.drop p).take k) := by
  intro j b hj
  rw [List.getElem?_take] at hj
  split at hj
  · rw [List.getElem?_drop] at hj
    obtain ⟨a, ha, hm⟩ := h _ _ hj
    have hlt := (List.getElem?_eq_some_iff.1 hj).1
    have hne : ¬ c = p := by omega
    refine ⟨a.add p, by rw [cutA, if_neg hne, ha, Nat.mul_one]; rfl, ?_⟩
    rw [add_add]
    exact hm
  · cases hj
/-- What is known on the way: so far the pieces are what was passed. -/
structure OnWay (m : Mem) (l : List (BitVec 8)) (ps : List Piece) (p : Nat) : Prop where
  le : p ≤ l.length
  fl : (ps.map (·.2.2)).flatten = l.take p
  by' : ∀ q ∈ ps, Bytes m q.1 q.2.2
  sm : ∀ q ∈ ps, q.2.2.length < 2 ^ 62
theorem OnWay.snoc {m : Mem} {l : List (BitVec 8)} {ps : List Piece} {p : Nat} (h : OnWay m l ps p) {A : Option Addr} {c : Nat} (hB : Bytes m A l) (hc : l.length ≤ c) (hl : l.length < 2 ^ 62) {q : Nat} (hpq : p ≤ q) (hq : q ≤ l.length) {c' : Nat} :
    OnWay m l (ps ++ [(cutA A c p, c', (l.drop p).take (q - p))]) q := by
  refine ⟨hq, ?_, ?_, ?_⟩
  · rw [List.map_append, List.flatten_append, h.fl]
    simp only [List.map_cons, List.map_nil, List.flatten_cons, List.flatten_nil, List.append_nil]
    have : q = p + (q - p) := by omega
    rw [this, List.take_add]
    congr 2
    omega
  · intro x hx
    rcases List.mem_append.1 hx with hx | hx
    · exact h.by' x hx
    · simp only [List.mem_singleton] at hx
      subst hx
      exact hB.cut hc p (q - p)
  · intro x hx
    rcases List.mem_append.1 hx with hx | hx
    · exact h.sm x hx
    · simp only [List.mem_singleton] at hx
      subst hx
      simp only [List.length_take, List.length_drop]
      omega
theorem OnWay.sum {m : Mem} {l : List (BitVec 8)} {ps : List Piece} {p : Nat} (h : OnWay m l ps p) : Plain.parts 0 (ps.map (·.2.2)) = Plain.add 0 (l.take p) := by
  rw [Plain.parts_eq, h.fl]
theorem Bytes.ext {m m' : Mem} (h : ∀ b o, m b = some o → m' b = some o) {A : Option Addr} {l : List (BitVec 8)} (hB : Bytes m A l) : Bytes m' A l := by
  intro j b hj
  obtain ⟨a, ha, hm⟩ := hB j b hj
  refine ⟨a, ha, ?_⟩
  unfold mcell at hm ⊢
  cases hb : m (a.add j).block with
  | none => rw [hb] at hm; cases hm
  | some o => rw [hb] at hm; rw [h _ o hb]; exact hm
theorem Sealed.lists {m m' : Mem} {A : Option Addr} {cap : Nat} {l : List (BitVec 8)} {qs : List Piece} {p : Nat} (h : Sealed m m' A cap qs.length 1 (qs.map pv)) (hw : OnWay m l qs p) : Lists m' A (qs.map (·.2.2)) := by
  intro j x hj
  rw [List.getElem?_map] at hj
  cases hq : qs[j]? with
  | none => rw [hq] at hj; cases hj
  | some q =>
    rw [hq] at hj
    cases hj
    have hmem : q ∈ qs := List.mem_of_getElem? hq
    have hjl := (List.getElem?_eq_some_iff.1 hq).1
    obtain ⟨a, ha, _, hc⟩ := h.rd (by omega)
    refine ⟨a, q.1, q.2.1, ha, ?_, (hw.by' q hmem).ext h.ext, hw.sm q hmem⟩
    have := hc j (pv q) (by rw [List.getElem?_map, hq]; rfl)
    rwa [Nat.zero_add] at this
set_option maxRecDepth 100000 in
theorem lawPieces_ok : SpecOk Tryd.prog 8 lawPieces := by
  refine spec_of_exec (fn := Tryd.f8) (c := Tryd.f8.body.getD .skip) (d := 1) (lv := lvAll) (DP := DPx T0 (CPs S3) lvAll) T0_ok S3_ok (fun B => DPx_ok T0_ok (by rfl) S3_ok B) lawPieces (by rfl) (by rfl) (by rfl) (fun _ => by show 2 ≤ 63; omega) ?_
  rintro ⟨A, c, l, B, d, zs, m⟩ ⟨hb, hz, ht, hl, hzl, hlc⟩
  obtain ⟨n, hn⟩ : ∃ n, n = l.length := ⟨_, rfl⟩
  obtain ⟨k, hk⟩ : ∃ k, k = zs.length := ⟨_, rfl⟩
  conv => whnf
  refine ⟨m, ht, ?_⟩
  conv => whnf
  repeat (first | (refine ⟨by first | exact ⟨rfl, rfl, rfl⟩ | rfl | exact fun _ _ h => h, ?_⟩; conv => whnf))
  intro _ _
  conv => whnf
  refine ⟨fun h => (by cases h), fun _ => ?_⟩
  conv => whnf
  refine ⟨Nat × List Piece × Nat, fun x => x.1 ≤ k ∧ x.2.1.length ≤ x.1 ∧ OnWay m l x.2.1 x.2.2, fun x => ⟨63, [⟨0, [], .sl A n c⟩, ⟨1, [], .sl B k d⟩, ⟨4, [], .b false⟩, ⟨5, [], .rw 0 x.2.1.length⟩, ⟨6, [], .i .i64 x.2.2⟩, ⟨7, [], .i .u32 ((Plain.add 0 (l.take x.2.2)).toNat : Int)⟩, ⟨12, [], .sl B k d⟩, ⟨13, [], .i .i64 k⟩, ⟨14, [], .i .i64 x.1⟩], [], [(0, .row 23 1 x.2.1.length (x.2.1.map pv))], 1⟩, fun _ => m, fun x => k - x.1, ⟨(0, [], 0), rfl, ⟨Nat.zero_le _, Nat.le_refl _, Nat.zero_le _, by simp, by simp, by simp⟩, ?_⟩, ?_⟩
  · have h00 : (0 : Int) = ((Plain.add 0 (List.take 0 l)).toNat : Int) := by rw [List.take_zero, Plain.add_nil]; rfl
    conv => whnf
    repeat (first | exact trivial | (refine ⟨by first | exact ⟨rfl, rfl, rfl⟩ | exact h00 | exact ⟨rfl, hn.symm, rfl⟩ | exact ⟨rfl, hk.symm, rfl⟩ | rfl | exact congrArg Int.ofNat hk.symm | exact ⟨rfl, rfl⟩, ?_⟩; conv => whnf))
  · rintro ⟨i, ps, p⟩ ⟨hi, hpi, hw⟩
    have hi : i ≤ k := hi
    have hpi : ps.length ≤ i := hpi
    have hw : OnWay m l ps p := hw
    have hple := hw.le
    conv => whnf
    refine ⟨fun hlt => ?_, fun hge => ?_⟩
    · have hlt : i < k := by have h2 := of_decide_eq_true hlt; simp only at h2; omega
      obtain ⟨z, hzi⟩ : ∃ z, zs[i]? = some z := ⟨_, List.getElem?_eq_getElem (by omega)⟩
      conv => whnf
      refine ⟨⟨Int.natCast_nonneg _, by show (i : Int) < (k : Int); omega, by obtain ⟨q, hq, _⟩ := hz i z hzi; rw [hq]; rfl⟩, ?_⟩
      conv => whnf
      refine ⟨.i .i64 z, ⟨rfl, rfl, rd1 (o := i) (by simp) (hz i z hzi)⟩, ?_⟩
      conv => whnf
      refine ⟨fun hskip => ?_, fun hgo => ?_⟩
      · conv => whnf
        refine ⟨(i + 1, ps, p), rfl, ⟨⟨by show i + 1 ≤ k; omega, by show ps.length ≤ i + 1; omega, hw⟩, by show k - (i + 1) < k - i; omega⟩, ?_⟩
        conv => whnf
        repeat (first | exact trivial | (refine ⟨by first | exact ⟨rfl, rfl, rfl⟩ | rfl | exact wrap64 _ (by omega) | exact ⟨rfl, rfl⟩, ?_⟩; conv => whnf))
      · have hgo : (p : Int) ≤ z ∧ z ≤ (n : Int) := by
          have h2 : (if decide (z < (p : Int)) = true then true else decide (z > (n : Int))) = false := hgo
          by_cases h3 : z < (p : Int)
          · simp [h3] at h2
          · simp [h3] at h2; omega
        obtain ⟨q, rfl⟩ : ∃ q : Nat, z = (q : Int) := ⟨z.toNat, by omega⟩
        have hpq : p ≤ q := by omega
        have hqn : q ≤ n := by omega
        conv => whnf
        refine ⟨⟨Int.natCast_nonneg _, by show (q : Int) ≤ (c : Int); omega⟩, ?_⟩
        conv => whnf
        refine ⟨⟨Int.natCast_nonneg _, by show (p : Int) ≤ (((q : Int).toNat : Nat) : Int); rw [Int.toNat_natCast]; omega⟩, ?_⟩
        conv => whnf
        refine ⟨Nat.le_refl _, ?_⟩
        conv => whnf
        refine ⟨⟨Nat.le_refl _, by show (ps.length + 1) * 24 ≤ _; omega, by show ps.length + 1 ≤ _; omega⟩, ?_⟩
        conv => whnf
        refine ⟨⟨Int.natCast_nonneg _, by show (q : Int) ≤ (c : Int); omega⟩, ?_⟩
        conv => whnf
        refine ⟨⟨Int.natCast_nonneg _, by show (p : Int) ≤ (((q : Int).toNat : Nat) : Int); rw [Int.toNat_natCast]; omega⟩, ?_⟩
        conv => whnf
        have hlen : ((l.drop p).take (q - p)).length = q - p := by rw [List.length_take, List.length_drop]; omega
        refine ⟨⟨Plain.add 0 (l.take p), cutA A c p, c - p, (l.drop p).take (q - p), m⟩, ⟨hb.cut hlc p (q - p), ht, by rw [hlen]; omega⟩, ?_⟩
        conv => whnf
        repeat (first | (refine ⟨by first | exact ⟨rfl, rfl, rfl⟩ | exact ⟨rfl, hlen.symm, rfl⟩ | rfl | exact fun _ _ h => h, ?_⟩; conv => whnf))
        intro _ _
        conv => whnf
        have hps : ps.length + 1 = (ps ++ [(cutA A c p, c - p, (l.drop p).take (q - p))]).length := by simp
        have hsum : ((Plain.add (Plain.add 0 (l.take p)) ((l.drop p).take (q - p))).toNat : Int) = ((Plain.add 0 (l.take q)).toNat : Int) := by
          rw [← Plain.add_append]
          have e : q = p + (q - p) := by omega
          conv => rhs; rw [e, List.take_add]
        have hrow : List.take (ps.length * 1) (ps.map pv) ++ List.take (1 * 1) [Value.slice (cutA A c p) (q - p) (c - p)] = (ps ++ [(cutA A c p, c - p, (l.drop p).take (q - p))]).map pv := by
          rw [Nat.mul_one, List.take_of_length_le (by simp), List.map_append]
          simp [pv, hlen]
        refine ⟨(i + 1, ps ++ [(cutA A c p, c - p, (l.drop p).take (q - p))], q), rfl, ⟨⟨by show i + 1 ≤ k; omega, by show (ps ++ [_]).length ≤ i + 1; simp; omega, hw.snoc hb hlc (by omega) hpq (by omega)⟩, by show k - (i + 1) < k - i; omega⟩, ?_⟩
        conv => whnf
        repeat (first | exact trivial | (refine ⟨by first | exact ⟨rfl, rfl, rfl⟩ | rfl | exact wrap64 _ (by omega) | exact hps | exact hsum | exact ⟨hps, hrow⟩, ?_⟩; conv => whnf))
    · conv => whnf
      have hge : i = k := by have h2 := of_decide_eq_false hge; simp only at h2; omega
      refine ⟨⟨Int.natCast_nonneg _, by show (p : Int) ≤ (n : Int); omega⟩, ?_⟩
      conv => whnf
      refine ⟨Nat.le_refl _, ?_⟩
      conv => whnf
      refine ⟨⟨Nat.le_refl _, by show (ps.length + 1) * 24 ≤ _; omega, by show ps.length + 1 ≤ _; omega⟩, ?_⟩
      conv => whnf
      refine ⟨⟨Int.natCast_nonneg _, by show (p : Int) ≤ (n : Int); omega⟩, ?_⟩
      conv => whnf
      have hlen : ((l.drop p).take (n - p)).length = n - p := by rw [List.length_take, List.length_drop]; omega
      have hw' := hw.snoc (c' := c - p) hb hlc (by omega) (show p ≤ n by omega) (by omega)
      have hall : Plain.add (Plain.add 0 (l.take p)) ((l.drop p).take (n - p)) = Plain.add 0 l := by
        rw [← Plain.add_append]
        have e : (l.drop p).take (n - p) = l.drop p := by rw [List.take_of_length_le]; rw [List.length_drop]; omega
        rw [e, List.take_append_drop]
      have hps : ps.length + 1 = (ps ++ [(cutA A c p, c - p, (l.drop p).take (n - p))]).length := by simp
      have hrow : List.take (ps.length * 1) (ps.map pv) ++ List.take (1 * 1) [Value.slice (cutA A c p) (n - p) (c - p)] = (ps ++ [(cutA A c p, c - p, (l.drop p).take (n - p))]).map pv := by
        rw [Nat.mul_one, List.take_of_length_le (by simp), List.map_append]
        simp [pv, hlen]
      refine ⟨⟨Plain.add 0 (l.take p), cutA A c p, c - p, (l.drop p).take (n - p), m⟩, ⟨hb.cut hlc p (n - p), ht, by rw [hlen]; omega⟩, ?_⟩
      conv => whnf
      repeat (first | (refine ⟨by first | exact ⟨rfl, rfl, rfl⟩ | exact ⟨rfl, hlen.symm, rfl⟩ | rfl | exact fun _ _ h => h, ?_⟩; conv => whnf))
      intro _ _
      conv => whnf
      refine ⟨⟨A, c, l, m⟩, ⟨hb, ht, by omega⟩, ?_⟩
      conv => whnf
      repeat (first | (refine ⟨by first | exact ⟨rfl, rfl, rfl⟩ | exact ⟨rfl, hn, rfl⟩ | rfl | exact fun _ _ h => h, ?_⟩; conv => whnf))
      intro _ _
      conv => whnf
      refine ⟨fun _ => ?_, fun h => by exfalso; have h2 : ((((Plain.add (Plain.add 0 (l.take p)) ((l.drop p).take (n - p))).toNat : Int) == ((Plain.add 0 l).toNat : Int))) = false := h; rw [hall] at h2; simp at h2⟩
      conv => whnf
      intro A' cap m' hS
      conv => whnf
      have hS2 : Sealed m m' A' cap (ps ++ [(cutA A c p, c - p, (l.drop p).take (n - p))]).length 1 ((ps ++ [(cutA A c p, c - p, (l.drop p).take (n - p))]).map pv) := by
        rw [← hps, ← hrow]
        exact hS
      have hLs := hS2.lists hw'
      have hpl : ps.length + 1 = ((ps ++ [(cutA A c p, c - p, (l.drop p).take (n - p))]).map (·.2.2)).length := by rw [List.length_map]; exact hps
      refine ⟨⟨A', cap, (ps ++ [(cutA A c p, c - p, (l.drop p).take (n - p))]).map (·.2.2), m'⟩, ⟨hLs, hS.tabs ht, by rw [← hpl]; omega⟩, ?_⟩
      conv => whnf
      repeat (first | (refine ⟨by first | exact ⟨rfl, rfl, rfl⟩ | exact ⟨rfl, hpl, rfl⟩ | exact ⟨rfl, hpl.symm, rfl⟩ | rfl | exact fun _ _ h => h, ?_⟩; conv => whnf))
      intro _ _
      conv => whnf
      refine ⟨fun _ => ?_, fun h => (by cases h)⟩
      conv => whnf
      refine ⟨⟨A, c, l, m⟩, ⟨hb, ht, by omega⟩, ?_⟩
      conv => whnf
      repeat (first | (refine ⟨by first | exact ⟨rfl, rfl, rfl⟩ | exact ⟨rfl, hn, rfl⟩ | rfl | exact fun _ _ h => h, ?_⟩; conv => whnf))
      intro _ _
      conv => whnf
      refine ⟨(), trivial, ?_⟩
      conv => whnf
      refine ⟨?_, ?_⟩
      · show (if (((Plain.add (Plain.add 0 (l.take p)) ((l.drop p).take (n - p))).toNat : Int) == ((Plain.add 0 l).toNat : Int)) = true then (((Plain.parts 0 ((ps ++ [(cutA A c p, c - p, (l.drop p).take (n - p))]).map (·.2.2))).toNat : Int) == ((Plain.add 0 l).toNat : Int)) else false) = true
        rw [hw'.sum, hall]
        have e : l.take n = l := by rw [hn, List.take_length]
        rw [e]
        simp
      conv => whnf
      exact fun _ _ h => h
end Go.Proofs.YtaeoibnbbpgajaaDoor.Sx
