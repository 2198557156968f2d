/- The document's sum, bit by bit. -/
import Derived.Test.YtaeoibnbbpgajaaDoorCrcA
namespace Go.Proofs.YtaeoibnbbpgajaaDoor.Sx
open Go

def bt (v : BitVec 32) : Nat → BitVec 32
  | 0 => v
  | k + 1 => Plain.bit (bt v k)
theorem bt8 (v : BitVec 32) : bt v 8 = Plain.byte v := rfl
theorem and1' (v : BitVec 32) : bits .and .u32 (v.toNat : Int) 1 = ((v &&& 1#32).toNat : Int) := bits_and32 v 1

set_option maxRecDepth 100000 in
theorem refAdd_ok : SpecOk Tryd.prog 12 addSpec := by
  refine spec_of_exec (fn := Tryd.f12) (c := Tryd.f12.body.getD .skip) (d := 2) (lv := [0,1,4,5,6,7,8,14,25,33]) T0_ok noCP_ok (fun B => noDP_ok B) addSpec (by rfl) (by rfl) (by rfl) (fun _ => by show 2 ≤ 38; omega) ?_
  rintro ⟨s, A, c, l, m⟩ ⟨hb, ht, hn⟩
  generalize hln : l.length = n at hn
  conv => whnf
  rw [hln]
  refine ⟨Nat × BitVec 32, fun x => x.1 ≤ n ∧ x.2 = Plain.run (~~~ s) (l.take x.1), fun x => ⟨38, [⟨1, [], .sl A n c⟩, ⟨5, [], .i .u32 (x.2.toNat : Int)⟩, ⟨6, [], .i .i64 x.1⟩], [], [], 0⟩, fun _ => m, fun x => n - x.1, ⟨(0, ~~~ s), rfl, ⟨Nat.zero_le _, rfl⟩, ?_⟩, ?_⟩
  · conv => whnf
    repeat (first | exact trivial | (refine ⟨by first | exact ⟨rfl, rfl, rfl⟩ | rfl | exact not32 _, ?_⟩; conv => whnf))
  · rintro ⟨i, u⟩ ⟨hi, hu⟩
    conv => whnf
    refine ⟨fun hlt => ?_, fun hge => ?_⟩
    · have hlt : i < n := by simpa using hlt
      have hx : l[i]? = some (l[i]'(by omega)) := List.getElem?_eq_getElem _
      generalize l[i]'(by omega) = x at hx
      conv => whnf
      refine ⟨⟨Int.natCast_nonneg _, by simpa using hlt, by obtain ⟨a, ha, _⟩ := hb i x hx; rw [ha]; rfl⟩, ?_⟩
      conv => whnf
      refine ⟨.i .u8 (x.toNat : Int), ⟨rfl, rfl, rd1 (o := i) (by simp) (hb i x hx)⟩, ?_⟩
      conv => whnf
      refine ⟨Nat × BitVec 32, fun y => y.1 ≤ 8 ∧ y.2 = bt (u ^^^ x.setWidth 32) y.1, fun x => ⟨38, [⟨1, [], .sl A n c⟩, ⟨5, [], .i .u32 (x.2.toNat : Int)⟩, ⟨6, [], .i .i64 i⟩, ⟨7, [], .i .i64 x.1⟩], [], [], 0⟩, fun _ => m, fun x => 8 - x.1, ⟨(0, u ^^^ x.setWidth 32), rfl, ⟨Nat.zero_le _, rfl⟩, ?_⟩, ?_⟩
      · conv => whnf
        repeat (first | exact trivial | (refine ⟨by first | exact ⟨rfl, rfl, rfl⟩ | rfl | exact not32 _ | (show bits .xor .u32 (u.toNat : Int) (IntKind.u32.wrap (x.toNat : Int)) = _; rw [cvt8, bits_xor32]), ?_⟩; conv => whnf))
      · rintro ⟨k, v⟩ ⟨hk', hv⟩
        simp only at hv
        have hbit : bt (u ^^^ x.setWidth 32) (k + 1) = Plain.bit v := by rw [hv]; rfl
        conv => whnf
        refine ⟨fun hlt => ?_, fun hge => ?_⟩
        · have hlt : k < 8 := by have h2 := of_decide_eq_true hlt; simp only at h2; omega
          conv => whnf
          refine ⟨by show (0:Int) ≤ 1; decide, ?_⟩
          conv => whnf
          refine ⟨fun h1 => ?_, fun h1 => ?_⟩
          · have h1 : v &&& 1#32 = 1#32 := by
              have h2 : bits .and .u32 (v.toNat : Int) 1 = 1 := eq_of_beq h1
              rw [and1'] at h2
              apply BitVec.eq_of_toNat_eq
              exact_mod_cast h2
            conv => whnf
            refine ⟨(k + 1, (v >>> 1) ^^^ 0xEDB88320#32), rfl, ⟨⟨by show k + 1 ≤ 8; omega, by rw [hbit]; unfold Plain.bit; rw [if_pos h1]⟩, by show 8 - (k + 1) < 8 - k; omega⟩, ?_⟩
            conv => whnf
            repeat (first | exact trivial | (refine ⟨by first | exact ⟨rfl, rfl, rfl⟩ | rfl | exact wrap64 _ (by omega) | (show bits .xor .u32 ((v.toNat : Int).fdiv (2 ^ 1)) _ = _; rw [shr32]; exact bits_xor32 _ 0xEDB88320#32), ?_⟩; conv => whnf))
          · have h1 : ¬ (v &&& 1#32 = 1#32) := by
              have h2 : ¬ (bits .and .u32 (v.toNat : Int) 1 = 1) := by
                intro e
                have h3 : (bits .and .u32 (v.toNat : Int) 1 == 1) = false := h1
                rw [e] at h3
                cases h3
              rw [and1'] at h2
              intro e
              rw [e] at h2
              exact h2 rfl
            conv => whnf
            refine ⟨(k + 1, v >>> 1), rfl, ⟨⟨by show k + 1 ≤ 8; omega, by rw [hbit]; unfold Plain.bit; rw [if_neg h1]⟩, by show 8 - (k + 1) < 8 - k; omega⟩, ?_⟩
            conv => whnf
            repeat (first | exact trivial | (refine ⟨by first | exact ⟨rfl, rfl, rfl⟩ | rfl | exact wrap64 _ (by omega) | exact shr32 v 1, ?_⟩; conv => whnf))
        · have hge : k = 8 := by have h2 := of_decide_eq_false hge; simp only at h2 hk'; omega
          subst hge
          conv => whnf
          refine ⟨(i + 1, v), rfl, ⟨⟨by show i + 1 ≤ n; omega, by simp only at hu; rw [hv, bt8, hu]; exact (Plain.run_take _ _ _ _ hx).symm⟩, by show n - (i + 1) < n - i; omega⟩, ?_⟩
          conv => whnf
          repeat (first | exact trivial | (refine ⟨by first | exact ⟨rfl, rfl, rfl⟩ | rfl | exact wrap64 _ (by omega), ?_⟩; conv => whnf))
    · conv => whnf
      have hge : i = n := by have h2 := of_decide_eq_false hge; simp only at h2 hi; omega
      simp only at hu
      refine ⟨(), trivial, ?_⟩
      conv => whnf
      refine ⟨?_, ?_⟩
      · subst hge
        rw [hu, ← hln, List.take_length]
        exact not32 _
      conv => whnf
      exact fun _ _ h => h

def S1 : List (Nat × Spec) := [(11, addSpec), (12, addSpec)]
theorem S1_ok : CPOk Tryd.prog (CPs S1) := CPs_ok fun f s h => by
  simp only [S1, findS] at h
  split at h
  · rename_i hb; obtain rfl := beq_eq hb; cases h; exact add_ok
  · split at h
    · rename_i hb; obtain rfl := beq_eq hb; cases h; exact refAdd_ok
    · cases h

structure SumG where
  A : Option Addr
  c : Nat
  l : List (BitVec 8)
  m : Mem
def sumSpec : Spec where
  A := SumG
  R := fun ⟨A, _, l, m⟩ => Bytes m A l ∧ Tabs m ∧ l.length < 2 ^ 62
  J := fun ⟨_, _, _, m⟩ => m
  args := fun ⟨A, c, l, _⟩ => [.sl A l.length c]
  h := fun _ => []
  nx := 0
  Bb := Unit
  C := fun _ _ => True
  out := fun ⟨_, _, l, _⟩ _ => .ret (.i .u32 ((Plain.add 0 l).toNat : Int))
  h2 := fun _ _ => []
  nx2 := 0
  md := 1
theorem sum_ok : SpecOk Tryd.prog 13 sumSpec := by
  refine spec_of_exec (fn := Tryd.f13) (c := Tryd.f13.body.getD .skip) (d := 0) (lv := [0,2]) T0_ok S1_ok (fun B => noDP_ok B) sumSpec (by rfl) (by rfl) (by rfl) (fun _ => by show 1 ≤ 5; omega) ?_
  rintro ⟨A, c, l, m⟩ ⟨hb, ht, hn⟩
  conv => whnf
  refine ⟨⟨0, A, c, l, m⟩, ⟨hb, ht, hn⟩, ?_⟩
  conv => whnf
  repeat (first | (intro _ _; conv => whnf; done) | (refine ⟨by first | exact ⟨rfl, rfl, rfl⟩ | rfl | exact fun _ _ h => h, ?_⟩; conv => whnf))
  intro _ _
  conv => whnf
  refine ⟨(), trivial, ?_⟩
  conv => whnf
  repeat (first | exact fun _ _ h => h | (refine ⟨by first | exact ⟨rfl, rfl, rfl⟩ | rfl, ?_⟩; conv => whnf))
theorem refSum_ok : SpecOk Tryd.prog 14 sumSpec := by
  refine spec_of_exec (fn := Tryd.f14) (c := Tryd.f14.body.getD .skip) (d := 0) (lv := [0,2]) T0_ok S1_ok (fun B => noDP_ok B) sumSpec (by rfl) (by rfl) (by rfl) (fun _ => by show 1 ≤ 5; omega) ?_
  rintro ⟨A, c, l, m⟩ ⟨hb, ht, hn⟩
  conv => whnf
  refine ⟨⟨0, A, c, l, m⟩, ⟨hb, ht, hn⟩, ?_⟩
  conv => whnf
  repeat (first | (refine ⟨by first | exact ⟨rfl, rfl, rfl⟩ | rfl | exact fun _ _ h => h, ?_⟩; conv => whnf))
  intro _ _
  conv => whnf
  refine ⟨(), trivial, ?_⟩
  conv => whnf
  repeat (first | exact fun _ _ h => h | (refine ⟨by first | exact ⟨rfl, rfl, rfl⟩ | rfl, ?_⟩; conv => whnf))

/-- Several rows of bytes. -/
def Lists (m : Mem) (A : Option Addr) (ls : List (List (BitVec 8))) : Prop := ∀ j l, ls[j]? = some l → ∃ a B c, A = some a ∧ mcell m (a.add j) = some (.slice B l.length c) ∧ Bytes m B l ∧ l.length < 2 ^ 62
structure PartsG where
  A : Option Addr
  c : Nat
  ls : List (List (BitVec 8))
  m : Mem
def partsSpec : Spec where
  A := PartsG
  R := fun ⟨A, _, l, m⟩ => Lists m A l ∧ Tabs m ∧ l.length < 2 ^ 62
  J := fun ⟨_, _, _, m⟩ => m
  args := fun ⟨A, c, l, _⟩ => [.sl A l.length c]
  h := fun _ => []
  nx := 0
  Bb := Unit
  C := fun _ _ => True
  out := fun ⟨_, _, l, _⟩ _ => .ret (.i .u32 ((Plain.parts 0 l).toNat : Int))
  h2 := fun _ _ => []
  nx2 := 0
  md := 1
set_option maxRecDepth 100000 in
theorem parts_ok : SpecOk Tryd.prog 15 partsSpec := by
  refine spec_of_exec (fn := Tryd.f15) (c := Tryd.f15.body.getD .skip) (d := 1) (lv := [0,2,3,5,6,7,8,9]) T0_ok S1_ok (fun B => noDP_ok B) partsSpec (by rfl) (by rfl) (by rfl) (fun _ => by show 1 ≤ 17; omega) ?_
  rintro ⟨A, c, l, m⟩ ⟨hb, ht, hn⟩
  generalize hln : l.length = n at hn
  conv => whnf
  rw [hln]
  refine ⟨Nat × BitVec 32, fun x => x.1 ≤ n ∧ x.2 = Plain.parts 0 (l.take x.1), fun x => ⟨17, [⟨3, [], .i .u32 (x.2.toNat : Int)⟩, ⟨6, [], .sl A n c⟩, ⟨7, [], .i .i64 n⟩, ⟨8, [], .i .i64 x.1⟩], [], [], 0⟩, fun _ => m, fun x => n - x.1, ⟨(0, 0), rfl, ⟨Nat.zero_le _, rfl⟩, ?_⟩, ?_⟩
  · conv => whnf
    repeat (first | exact trivial | (refine ⟨by first | exact ⟨rfl, rfl, rfl⟩ | rfl, ?_⟩; conv => whnf))
  · rintro ⟨i, u⟩ ⟨hi, hu⟩
    conv => whnf
    refine ⟨fun hlt => ?_, fun hge => ?_⟩
    · have hlt : i < n := by simpa using hlt
      have hx : l[i]? = some (l[i]'(by omega)) := List.getElem?_eq_getElem _
      generalize l[i]'(by omega) = x at hx
      obtain ⟨a, D, cc, hA, hm, hD, hDl⟩ := hb i x hx
      conv => whnf
      refine ⟨⟨Int.natCast_nonneg _, by simpa using hlt, by rw [hA]; rfl⟩, ?_⟩
      conv => whnf
      refine ⟨.sl D x.length cc, ⟨rfl, rfl, rd1 (o := i) (by simp) ⟨a, hA, hm⟩⟩, ?_⟩
      conv => whnf
      refine ⟨⟨u, D, cc, x, m⟩, ⟨hD, ht, hDl⟩, ?_⟩
      conv => whnf
      repeat (first | (refine ⟨by first | exact ⟨rfl, rfl, rfl⟩ | rfl | exact fun _ _ h => h, ?_⟩; conv => whnf))
      intro _ _
      conv => whnf
      refine ⟨(i + 1, Plain.add u x), rfl, ⟨⟨by show i + 1 ≤ n; omega, by simp only at hu; rw [hu]; exact (Plain.parts_take _ _ _ _ hx).symm⟩, by show n - (i + 1) < n - i; omega⟩, ?_⟩
      conv => whnf
      repeat (first | exact trivial | (refine ⟨by first | exact ⟨rfl, rfl, rfl⟩ | rfl | exact wrap64 _ (by omega), ?_⟩; conv => whnf))
    · conv => whnf
      have hge : i = n := by have h2 := of_decide_eq_false hge; simp only at h2 hi; omega
      simp only at hu
      refine ⟨(), trivial, ?_⟩
      conv => whnf
      refine ⟨?_, ?_⟩
      · subst hge
        rw [hu, ← hln, List.take_length]
      conv => whnf
      exact fun _ _ h => h

def S2 : List (Nat × Spec) := [(11, addSpec), (12, addSpec), (13, sumSpec), (14, sumSpec), (15, partsSpec)]
theorem S2_ok : CPOk Tryd.prog (CPs S2) := CPs_ok fun f s h => by
  simp only [S2, findS] at h
  repeat' split at h
  all_goals first | (rename_i hb; obtain rfl := beq_eq hb; cases h; first | exact add_ok | exact refAdd_ok | exact sum_ok | exact refSum_ok | exact parts_ok) | cases h
end Go.Proofs.YtaeoibnbbpgajaaDoor.Sx
