/- What the statements' functions answer: CrcParts, CrcMixes. -/
import Derived.Test.YtaeoibnbbpgajaaDoorCrcC
namespace Go.Proofs.YtaeoibnbbpgajaaDoor.Sx
open Go

def lawParts : Spec where
  A := PartsG
  R := fun ⟨A, _, l, m⟩ => Lists m A l ∧ Tabs m ∧ l.length < 2 ^ 62
  J := fun ⟨_, _, _, m⟩ => m
  args := fun ⟨A, c, l, _⟩ => [.sl A l.length c]
  h := fun _ => []
  nx := 0
  Bb := Unit
  C := fun _ _ => True
  out := fun _ _ => lawOut
  h2 := fun _ _ => []
  nx2 := 0
set_option maxRecDepth 100000 in
theorem lawParts_ok : SpecOk Tryd.prog 7 lawParts := by
  refine spec_of_exec (fn := Tryd.f7) (c := Tryd.f7.body.getD .skip) (d := 1) (lv := lvAll) T0_ok S3_ok (fun B => noDP_ok B) lawParts (by rfl) (by rfl) (by rfl) (fun _ => by show 1 ≤ 23; omega) ?_
  rintro ⟨A, c, l, m⟩ ⟨hb, ht, hn⟩
  generalize hln : l.length = n at hn
  conv => whnf
  rw [hln]
  refine ⟨Nat × BitVec 32, fun x => x.1 ≤ n ∧ x.2 = Plain.parts 0 (l.take x.1), fun x => ⟨23, [⟨0, [], .sl A n c⟩, ⟨2, [], .b false⟩, ⟨3, [], .i .u32 (x.2.toNat : Int)⟩, ⟨6, [], .sl A n c⟩, ⟨7, [], .i .i64 n⟩, ⟨8, [], .i .i64 x.1⟩], [], [], 0⟩, fun _ => m, fun x => n - x.1, ⟨(0, 0), rfl, ⟨Nat.zero_le _, rfl⟩, ?_⟩, ?_⟩
  · conv => whnf
    repeat (first | exact trivial | (refine ⟨by first | exact ⟨rfl, rfl, rfl⟩ | rfl, ?_⟩; conv => whnf))
  · rintro ⟨i, u⟩ ⟨hi, hu⟩
    conv => whnf
    refine ⟨fun hlt => ?_, fun hge => ?_⟩
    · have hlt : i < n := by simpa using hlt
      have hx : l[i]? = some (l[i]'(by omega)) := List.getElem?_eq_getElem _
      generalize l[i]'(by omega) = x at hx
      obtain ⟨a, D, cc, hA, hm, hD, hDl⟩ := hb i x hx
      conv => whnf
      refine ⟨⟨Int.natCast_nonneg _, by simpa using hlt, by rw [hA]; rfl⟩, ?_⟩
      conv => whnf
      refine ⟨.sl D x.length cc, ⟨rfl, rfl, rd1 (o := i) (by simp) ⟨a, hA, hm⟩⟩, ?_⟩
      conv => whnf
      refine ⟨⟨u, D, cc, x, m⟩, ⟨hD, ht, hDl⟩, ?_⟩
      conv => whnf
      repeat (first | (refine ⟨by first | exact ⟨rfl, rfl, rfl⟩ | rfl | exact fun _ _ h => h, ?_⟩; conv => whnf))
      intro _ _
      conv => whnf
      refine ⟨(i + 1, Plain.add u x), rfl, ⟨⟨by show i + 1 ≤ n; omega, by simp only at hu; rw [hu]; exact (Plain.parts_take _ _ _ _ hx).symm⟩, by show n - (i + 1) < n - i; omega⟩, ?_⟩
      conv => whnf
      repeat (first | exact trivial | (refine ⟨by first | exact ⟨rfl, rfl, rfl⟩ | rfl | exact wrap64 _ (by omega), ?_⟩; conv => whnf))
    · conv => whnf
      have hge : i = n := by have h2 := of_decide_eq_false hge; simp only at h2 hi; omega
      simp only at hu
      have hu : u = Plain.parts 0 l := by rw [hu, hge, ← hln, List.take_length]
      subst hu
      refine ⟨m, ht, ?_⟩
      conv => whnf
      repeat (first | (refine ⟨by first | exact ⟨rfl, rfl, rfl⟩ | rfl | exact fun _ _ h => h, ?_⟩; conv => whnf))
      intro _ _
      conv => whnf
      refine ⟨fun _ => ?_, fun h => by cases h⟩
      conv => whnf
      refine ⟨⟨A, c, l, m⟩, ⟨hb, ht, by rw [hln]; exact hn⟩, ?_⟩
      conv => whnf
      repeat (first | (refine ⟨by first | exact ⟨rfl, rfl, rfl⟩ | rfl | exact fun _ _ h => h | exact ⟨rfl, hln.symm, rfl⟩, ?_⟩; conv => whnf))
      intro _ _
      conv => whnf
      refine ⟨(), trivial, ?_⟩
      conv => whnf
      refine ⟨by simp, ?_⟩
      conv => whnf
      exact fun _ _ h => h

structure MixG where
  A : Option Addr
  c : Nat
  a : List (BitVec 8)
  B : Option Addr
  d : Nat
  b : List (BitVec 8)
  D : Option Addr
  e : Nat
  l : List (BitVec 8)
  m : Mem
def lawMixes : Spec where
  A := MixG
  R := fun ⟨A, c, a, B, d, b, D, e, l, m⟩ => Bytes m A a ∧ Bytes m B b ∧ Bytes m D l ∧ Tabs m ∧ a.length ≤ reachBytes ∧ b.length ≤ reachBytes ∧ l.length ≤ reachBytes ∧ a.length ≤ c ∧ b.length ≤ d ∧ l.length ≤ e
  J := fun ⟨_, _, _, _, _, _, _, _, _, m⟩ => m
  args := fun ⟨A, c, a, B, d, b, D, e, l, _⟩ => [.sl A a.length c, .sl B b.length d, .sl D l.length e]
  h := fun _ => []
  nx := 0
  Bb := Unit
  C := fun _ _ => True
  out := fun _ _ => lawOut
  h2 := fun _ _ => []
  nx2 := 0
def mixL (a b c : List (BitVec 8)) : List (BitVec 8 × BitVec 8 × BitVec 8) := a.zip (b.zip c)
def bv8 (b : BitVec 8) : Value := .int .u8 (b.toNat : Int)
theorem min3 (x y z : Nat) : (if (z : Int) < (if (y : Int) < (x : Int) then (y : Int) else (x : Int)) then (z : Int) else (if (y : Int) < (x : Int) then (y : Int) else (x : Int))) = ((min x (min y z) : Nat) : Int) := by
  split <;> split <;> omega
theorem mixL_length (a b c : List (BitVec 8)) : (mixL a b c).length = min a.length (min b.length c.length) := by simp [mixL]
theorem mixL_get {a b c : List (BitVec 8)} {i : Nat} (h : i < min a.length (min b.length c.length)) : (mixL a b c)[i]? = some (a[i]'(by omega), b[i]'(by omega), c[i]'(by omega)) := by
  unfold mixL
  rw [List.getElem?_eq_getElem (by simp; omega), List.getElem_zip, List.getElem_zip]
theorem bits_xor8 (x y : BitVec 8) : bits .xor .u8 (x.toNat : Int) (y.toNat : Int) = ((x ^^^ y).toNat : Int) := by
  have hx := x.isLt
  have hy := y.isLt
  have hz := (x ^^^ y).isLt
  have h : IntKind.u8.wrap ((x ^^^ y).toNat : Int) = ((x ^^^ y).toNat : Int) := by
    generalize (x ^^^ y).toNat = q at hz
    simp only [IntKind.wrap, IntKind.bits, IntKind.signed]
    simp
    omega
  rw [← h, BitVec.toNat_xor]
  simp [bits, IntKind.bits]
  try rfl
def mix1 (p : BitVec 8 × BitVec 8 × BitVec 8) : BitVec 8 := p.1 ^^^ p.2.1 ^^^ p.2.2
/-- The row that is under way: what is mixed already, then zeros. -/
def rowM (a b c : List (BitVec 8)) (n i : Nat) : List (BitVec 8) := ((mixL a b c).map mix1).take i ++ List.replicate (n - i) 0#8
theorem rowM_set {a b c : List (BitVec 8)} {n i : Nat} (hn : n = min a.length (min b.length c.length)) (hi : i < n) {x y z : BitVec 8} (hx : a[i]? = some x) (hy : b[i]? = some y) (hz : c[i]? = some z) :
    ((rowM a b c n i).map bv8).take i ++ ([bv8 (x ^^^ y ^^^ z)] ++ ((rowM a b c n i).map bv8).drop (i + 1)) = (rowM a b c n (i + 1)).map bv8 := by
  have hl : (((mixL a b c).map mix1).take i).length = i := by rw [List.length_take, List.length_map, mixL_length]; omega
  have hg : ((mixL a b c).map mix1)[i]? = some (x ^^^ y ^^^ z) := by
    rw [List.getElem?_map, mixL_get (by omega)]
    have h1 : i < a.length := by omega
    have h2 : i < b.length := by omega
    have h3 : i < c.length := by omega
    rw [List.getElem?_eq_getElem h1, Option.some.injEq] at hx
    rw [List.getElem?_eq_getElem h2, Option.some.injEq] at hy
    rw [List.getElem?_eq_getElem h3, Option.some.injEq] at hz
    simp only [Option.map_some, mix1, hx, hy, hz]
  have hr : n - i = (n - (i + 1)) + 1 := by omega
  unfold rowM
  rw [List.take_add_one, hg, hr, List.replicate_succ]
  rw [List.map_append, List.take_left' (by rw [List.length_map, hl])]
  rw [List.drop_append]
  have e1 : (List.map bv8 (List.take i (List.map mix1 (mixL a b c)))).length = i := by rw [List.length_map, hl]
  rw [e1, List.drop_eq_nil_of_le (by rw [e1]; omega)]
  simp
theorem rowM_len {a b c : List (BitVec 8)} {n i : Nat} (hn : n = min a.length (min b.length c.length)) (hi : i ≤ n) : (rowM a b c n i).length = n := by
  unfold rowM
  rw [List.length_append, List.length_take, List.length_map, mixL_length, List.length_replicate]
  omega
theorem rowM_end {a b c : List (BitVec 8)} {n : Nat} (hn : n = min a.length (min b.length c.length)) : rowM a b c n n = (mixL a b c).map mix1 := by
  unfold rowM
  rw [Nat.sub_self, List.replicate_zero, List.append_nil, List.take_of_length_le (by rw [List.length_map, mixL_length]; omega)]
theorem repl1 (n : Nat) (v : Value) : repl n [v] = List.replicate n v := by
  unfold repl
  induction n with
  | zero => rfl
  | succ n ih => rw [List.replicate_succ, List.flatten_cons, ih, List.replicate_succ]; rfl
theorem rowM_zero (a b c : List (BitVec 8)) (n : Nat) : (rowM a b c n 0).map bv8 = repl n [.int .u8 0] := by
  rw [repl1]
  simp [rowM, bv8]
theorem Bytes.take {m : Mem} {A : Option Addr} {l : List (BitVec 8)} (h : Bytes m A l) (k : Nat) : Bytes m A (l.take k) := fun j b hj => by
  rw [List.getElem?_take] at hj
  split at hj
  · exact h j b hj
  · cases hj
theorem mix_sums (a b c : List (BitVec 8)) (n : Nat) (hn : n = min a.length (min b.length c.length)) :
    Plain.add 0 ((mixL a b c).map mix1) = Plain.add 0 (a.take n) ^^^ Plain.add 0 (b.take n) ^^^ Plain.add 0 (c.take n) := by
  have h := Plain.add_mix (mixL a b c)
  have e1 : (mixL a b c).map (·.1) = a.take n := by
    unfold mixL
    apply List.ext_getElem?
    intro i
    rw [List.getElem?_map, List.getElem?_take]
    by_cases h : i < n
    · have := mixL_get (a := a) (b := b) (c := c) (i := i) (by omega)
      unfold mixL at this
      rw [this, if_pos h, List.getElem?_eq_getElem (by omega)]; rfl
    · rw [if_neg h, List.getElem?_eq_none (by simp; omega)]; rfl
  have e2 : (mixL a b c).map (·.2.1) = b.take n := by
    unfold mixL
    apply List.ext_getElem?
    intro i
    rw [List.getElem?_map, List.getElem?_take]
    by_cases h : i < n
    · have := mixL_get (a := a) (b := b) (c := c) (i := i) (by omega)
      unfold mixL at this
      rw [this, if_pos h, List.getElem?_eq_getElem (by omega)]; rfl
    · rw [if_neg h, List.getElem?_eq_none (by simp; omega)]; rfl
  have e3 : (mixL a b c).map (·.2.2) = c.take n := by
    unfold mixL
    apply List.ext_getElem?
    intro i
    rw [List.getElem?_map, List.getElem?_take]
    by_cases h : i < n
    · have := mixL_get (a := a) (b := b) (c := c) (i := i) (by omega)
      unfold mixL at this
      rw [this, if_pos h, List.getElem?_eq_getElem (by omega)]; rfl
    · rw [if_neg h, List.getElem?_eq_none (by simp; omega)]; rfl
  rw [e1, e2, e3] at h
  exact h
set_option maxRecDepth 100000 in
theorem lawMixes_ok : SpecOk Tryd.prog 5 lawMixes := by
  refine spec_of_exec (fn := Tryd.f5) (c := Tryd.f5.body.getD .skip) (d := 1) (lv := lvAll) (DP := DPx T0 (CPs S3) lvAll) T0_ok S3_ok (fun B => DPx_ok T0_ok (by rfl) S3_ok B) lawMixes (by rfl) (by rfl) (by rfl) (fun _ => by show 3 ≤ 61; omega) ?_
  rintro ⟨A, c, a, B, d, b, D, e, l, m⟩ ⟨ha, hb, hl, ht, ha1, hb1, hl1, hac, hbc, hlc⟩
  conv => whnf
  refine ⟨m, ht, ?_⟩
  conv => whnf
  repeat (first | (refine ⟨by first | exact ⟨rfl, rfl, rfl⟩ | rfl | exact fun _ _ h => h, ?_⟩; conv => whnf))
  intro _ _
  conv => whnf
  refine ⟨fun h => (by cases h), fun _ => ?_⟩
  conv => whnf
  obtain ⟨n, hn⟩ : ∃ n, n = min a.length (min b.length l.length) := ⟨_, rfl⟩
  have hmin := min3 a.length b.length l.length
  rw [← hn] at hmin
  have hn1 : n ≤ reachBytes := by omega
  unfold reachBytes at hn1
  refine ⟨by rw [hmin]; refine ⟨by omega, by omega, ?_, by omega⟩; show (n : Int) * 1 ≤ _; omega, ?_⟩
  conv => whnf
  refine ⟨Nat, fun i => i ≤ n, fun i => ⟨61, [⟨0, [], .sl A a.length c⟩, ⟨1, [], .sl B b.length d⟩, ⟨2, [], .sl D l.length e⟩, ⟨6, [], .b false⟩, ⟨7, [], .i .i64 n⟩, ⟨8, [], .rw 0 n⟩, ⟨22, [], .i .i64 n⟩, ⟨23, [], .i .i64 i⟩], [], [(0, .row 5 1 n ((rowM a b l n i).map bv8))], 1⟩, fun _ => m, fun i => n - i, ⟨0, rfl, Nat.zero_le _, ?_⟩, ?_⟩
  · conv => whnf
    have hmn := congrArg Int.toNat hmin
    rw [Int.toNat_natCast] at hmn
    repeat (first | exact trivial | (refine ⟨by first | exact ⟨rfl, rfl, rfl⟩ | rfl | exact hmin | exact hmn | exact congrArg Int.ofNat hmn | exact ⟨hmn, by rw [hmn]; exact (rowM_zero a b l n).symm⟩, ?_⟩; conv => whnf))
  · intro i hi
    conv => whnf
    refine ⟨fun hlt => ?_, fun hge => ?_⟩
    · have hlt : i < n := by have h2 := of_decide_eq_true hlt; omega
      obtain ⟨x, hx⟩ : ∃ x, a[i]? = some x := ⟨_, List.getElem?_eq_getElem (by omega)⟩
      obtain ⟨y, hy⟩ : ∃ x, b[i]? = some x := ⟨_, List.getElem?_eq_getElem (by omega)⟩
      obtain ⟨z, hz⟩ : ∃ x, l[i]? = some x := ⟨_, List.getElem?_eq_getElem (by omega)⟩
      conv => whnf
      refine Or.inl ?_
      conv => whnf
      refine ⟨by kernel_rfl, ?_⟩
      conv => whnf
      refine ⟨⟨Int.natCast_nonneg _, by show (i : Int) < (a.length : Int); omega, by obtain ⟨q, hq, _⟩ := ha i x hx; rw [hq]; rfl⟩, ?_⟩
      conv => whnf
      refine ⟨.i .u8 (x.toNat : Int), ⟨rfl, rfl, rd1 (o := i) (by simp) (ha i x hx)⟩, ?_⟩
      conv => whnf
      refine ⟨⟨Int.natCast_nonneg _, by show (i : Int) < (b.length : Int); omega, by obtain ⟨q, hq, _⟩ := hb i y hy; rw [hq]; rfl⟩, ?_⟩
      conv => whnf
      refine ⟨.i .u8 (y.toNat : Int), ⟨rfl, rfl, rd1 (o := i) (by simp) (hb i y hy)⟩, ?_⟩
      conv => whnf
      refine ⟨⟨Int.natCast_nonneg _, by show (i : Int) < (l.length : Int); omega, by obtain ⟨q, hq, _⟩ := hl i z hz; rw [hq]; rfl⟩, ?_⟩
      conv => whnf
      refine ⟨.i .u8 (z.toNat : Int), ⟨rfl, rfl, rd1 (o := i) (by simp) (hl i z hz)⟩, ?_⟩
      conv => whnf
      refine ⟨⟨Int.natCast_nonneg _, by show (i : Int) < (n : Int); omega, Nat.le_refl _⟩, ?_⟩
      conv => whnf
      refine ⟨⟨?_, rfl⟩, ?_⟩
      · rw [List.length_map, rowM_len hn (by omega)]
        show (i : Int).toNat * 1 + 1 ≤ n
        rw [Int.toNat_natCast]
        omega
      conv => whnf
      refine ⟨i + 1, rfl, ⟨by omega, by show n - (i + 1) < n - i; omega⟩, ?_⟩
      conv => whnf
      repeat (first | exact trivial | (refine ⟨by first | exact ⟨rfl, rfl, rfl⟩ | rfl | exact wrap64 _ (by omega) | (refine ⟨rfl, ?_⟩; show List.take ((i : Int).toNat * 1) _ ++ ([Value.int .u8 (bits .xor .u8 (bits .xor .u8 (x.toNat : Int) (y.toNat : Int)) (z.toNat : Int))] ++ List.drop ((i : Int).toNat * 1 + 1) _) = _; rw [bits_xor8, bits_xor8, Int.toNat_natCast, Nat.mul_one]; exact rowM_set hn hlt hx hy hz), ?_⟩; conv => whnf))
    · conv => whnf
      have hge : i = n := by have h2 := of_decide_eq_false hge; omega
      refine Or.inr ⟨[], [(0, true), (2, true), (3, true), (4, true), (6, true), (7, true), (8, true), (11, true), (12, true), (13, true), (1, true), (5, true), (9, true), (10, true), (14, true), (15, false), (16, false), (17, false)], by kernel_rfl, ?_⟩
      conv => whnf
      have hnn : (n : Int).toNat = n := Int.toNat_natCast n
      refine ⟨⟨Int.natCast_nonneg _, by omega⟩, ?_⟩
      conv => whnf
      refine ⟨⟨Int.natCast_nonneg _, by omega⟩, ?_⟩
      conv => whnf
      refine ⟨⟨Int.natCast_nonneg _, by omega⟩, ?_⟩
      conv => whnf
      intro A' cap m' hS
      conv => whnf
      have hS' := Sealed.bytes (l := rowM a b l n i) hS
      have hTm : Tabs m' := hS.tabs ht
      have hrl : (rowM a b l n i).length = n := rowM_len hn hi
      refine ⟨⟨A', cap, rowM a b l n i, m'⟩, ⟨hS', hTm, by rw [hrl]; omega⟩, ?_⟩
      conv => whnf
      repeat (first | (refine ⟨by first | exact ⟨rfl, rfl, rfl⟩ | exact ⟨rfl, hrl.symm, rfl⟩ | rfl | exact fun _ _ h => h, ?_⟩; conv => whnf))
      intro _ _
      conv => whnf
      have htk : ∀ {q : List (BitVec 8)}, n ≤ q.length → (n : Int).toNat = (q.take n).length := fun h => by rw [List.length_take, hnn]; omega
      refine ⟨⟨A, c, a.take n, m⟩, ⟨ha.take n, ht, by rw [List.length_take]; omega⟩, ?_⟩
      conv => whnf
      repeat (first | (refine ⟨by first | exact ⟨rfl, rfl, rfl⟩ | exact ⟨rfl, htk (by omega), rfl⟩ | rfl | exact fun _ _ h => h, ?_⟩; conv => whnf))
      intro _ _
      conv => whnf
      refine ⟨⟨B, d, b.take n, m⟩, ⟨hb.take n, ht, by rw [List.length_take]; omega⟩, ?_⟩
      conv => whnf
      repeat (first | (refine ⟨by first | exact ⟨rfl, rfl, rfl⟩ | exact ⟨rfl, htk (by omega), rfl⟩ | rfl | exact fun _ _ h => h, ?_⟩; conv => whnf))
      intro _ _
      conv => whnf
      refine ⟨⟨D, e, l.take n, m⟩, ⟨hl.take n, ht, by rw [List.length_take]; omega⟩, ?_⟩
      conv => whnf
      repeat (first | (refine ⟨by first | exact ⟨rfl, rfl, rfl⟩ | exact ⟨rfl, htk (by omega), rfl⟩ | rfl | exact fun _ _ h => h, ?_⟩; conv => whnf))
      intro _ _
      conv => whnf
      refine ⟨(), trivial, ?_⟩
      conv => whnf
      refine ⟨?_, ?_⟩
      · show (((Plain.add 0 (rowM a b l n i)).toNat : Int) == bits .xor .u32 (bits .xor .u32 ((Plain.add 0 (a.take n)).toNat : Int) ((Plain.add 0 (b.take n)).toNat : Int)) ((Plain.add 0 (l.take n)).toNat : Int)) = true
        rw [bits_xor32, bits_xor32, hge, rowM_end hn, mix_sums a b l n hn]
        exact beq_self_eq_true _
      conv => whnf
      exact fun _ _ h => h
end Go.Proofs.YtaeoibnbbpgajaaDoor.Sx
