/- The sums: what the program's functions do, as told to the evaluator: Add, Sum, Parts and the document's answers. -/
import Derived.Test.YtaeoibnbbpgajaaDoorProg
import Derived.Test.YtaeoibnbbpgajaaDoorBits
import Derived.Test.YtaeoibnbbpgajaaDoorPlain
namespace Go.Proofs.YtaeoibnbbpgajaaDoor.Sx
open Go

noncomputable def T0 : Tbl := [(3, ⟨.int .i64, 1, 8, .i .i64 0, false⟩), (4, ⟨.bool, 1, 1, .b false, false⟩), (5, ⟨.int .u8, 1, 1, .i .u8 0, false⟩), (22, ⟨.int .u32, 1, 4, .i .u32 0, false⟩), (23, ⟨.slice 5, 1, 24, .sl none 0 0, false⟩), (39, ⟨.array 16 22, 16, 64, .g [.gi 16 .u32 fun _ => 0], false⟩),
  (9, ⟨.string, 1, 16, .s ByteArray.empty, false⟩), (28, ⟨.array 4 5, 4, 4, .g [.gi 4 .u8 fun _ => 0], false⟩), (32, ⟨.slice 23, 1, 24, .sl none 0 0, false⟩), (35, ⟨.slice 3, 1, 24, .sl none 0 0, false⟩)]
theorem T0_ok : TOk Tryd.prog T0 := TOk.of (by
  intro p hp
  simp only [T0, List.mem_cons, List.not_mem_nil, or_false] at hp
  rcases hp with rfl | rfl | rfl | rfl | rfl | rfl | rfl | rfl | rfl | rfl
  all_goals exact ⟨by kernel_rfl, rfl, rfl, rfl, by kernel_rfl, fun h => by cases h⟩)

theorem rd1 {m : Mem} {A : Option Addr} {o o' : Nat} {v : Value} (ho : o' = o) (h : ∃ a, A = some a ∧ mcell m (a.add o) = some v) : rdM m A o' 1 [v] := by
  subst ho
  obtain ⟨a, ha, hm⟩ := h
  refine ⟨a, ha, rfl, fun j u hj => ?_⟩
  cases j with
  | zero => cases hj; exact hm
  | succ j => cases hj
theorem cvt8 (b : BitVec 8) : IntKind.u32.wrap (b.toNat : Int) = ((b.setWidth 32).toNat : Int) := by
  have h := wrap32 (b.setWidth 32)
  have e : (b.setWidth 32).toNat = b.toNat := by
    have := b.isLt
    rw [BitVec.toNat_setWidth]
    exact Nat.mod_eq_of_lt (by omega)
  rw [e] at h ⊢
  exact h

/-- What a row of bytes reads as, in memory that stays. -/
def Bytes (m : Mem) (A : Option Addr) (l : List (BitVec 8)) : Prop := ∀ j b, l[j]? = some b → ∃ a, A = some a ∧ mcell m (a.add j) = some (.int .u8 (b.toNat : Int))
/-- The program's table of sixteen words. -/
def Tabs (m : Mem) : Prop := ∀ j, j < 16 → mcell m ⟨0, j, none⟩ = some (.int .u32 ((Plain.tab j).toNat : Int))

def lvAll : List Nat := [0,1,2,3,4,5,6,7,8,9,10,11,12,13,14,15,16,17,18,19,20,21,22,23,24,25,26,27,28,29,30]

structure AddG where
  s : BitVec 32
  A : Option Addr
  c : Nat
  l : List (BitVec 8)
  m : Mem
def addSpec : Spec where
  A := AddG
  R := fun ⟨_, A, _, l, m⟩ => Bytes m A l ∧ Tabs m ∧ l.length < 2 ^ 62
  J := fun ⟨_, _, _, _, m⟩ => m
  args := fun ⟨s, A, c, l, _⟩ => [.i .u32 (s.toNat : Int), .sl A l.length c]
  h := fun _ => []
  nx := 0
  Bb := Unit
  C := fun _ _ => True
  out := fun ⟨s, _, _, l, _⟩ _ => .ret (.i .u32 ((Plain.add s l).toNat : Int))
  h2 := fun _ _ => []
  nx2 := 0
  md := 1

def hk (v : BitVec 32) : Nat → BitVec 32
  | 0 => v
  | k + 1 => Plain.half (hk v k)
theorem hk2 (v : BitVec 32) : hk v 2 = Plain.byte v := by
  show Plain.half (Plain.half v) = _
  rw [Plain.half_eq, Plain.half_eq]; rfl

def noCP : CallP := CPs []
theorem noCP_ok {P : Program} : CPOk P noCP := CPs_ok fun f s h => by cases h

def lvAdd : List Nat := [0,1,4,5,7,10,11,12,13,20,21]
set_option maxRecDepth 100000 in
theorem add_ok : SpecOk Tryd.prog 11 addSpec := by
  refine spec_of_exec (fn := Tryd.f11) (c := Tryd.f11.body.getD .skip) (d := 2) (lv := lvAdd) T0_ok noCP_ok (fun B => noDP_ok B) addSpec (by rfl) (by rfl) (by rfl) (fun _ => by show 2 ≤ 33; omega) ?_
  rintro ⟨s, A, c, l, m⟩ ⟨hb, ht, hn⟩
  generalize hln : l.length = n at hn
  conv => whnf
  rw [hln]
  refine ⟨Nat × BitVec 32, fun x => x.1 ≤ n ∧ x.2 = Plain.run (~~~ s) (l.take x.1), fun x => ⟨33, [⟨1, [], .sl A n c⟩, ⟨5, [], .i .u32 (x.2.toNat : Int)⟩, ⟨10, [], .sl A n c⟩, ⟨11, [], .i .i64 n⟩, ⟨12, [], .i .i64 x.1⟩], [], [], 0⟩, fun _ => m, fun x => n - x.1, ⟨(0, ~~~ s), rfl, ⟨Nat.zero_le _, rfl⟩, ?_⟩, ?_⟩
  · conv => whnf
    repeat (first | exact trivial | (refine ⟨by first | exact ⟨rfl, rfl, rfl⟩ | rfl | exact not32 _, ?_⟩; conv => whnf))
  · rintro ⟨i, u⟩ ⟨hi, hu⟩
    conv => whnf
    refine ⟨fun hlt => ?_, fun hge => ?_⟩
    · have hlt : i < n := by simpa using hlt
      have hx : l[i]? = some (l[i]'(by omega)) := List.getElem?_eq_getElem _
      generalize l[i]'(by omega) = x at hx
      conv => whnf
      refine ⟨⟨Int.natCast_nonneg _, by simpa using hlt, by obtain ⟨a, ha, _⟩ := hb i x hx; rw [ha]; rfl⟩, ?_⟩
      conv => whnf
      refine ⟨.i .u8 (x.toNat : Int), ⟨rfl, rfl, rd1 (o := i) (by simp) (hb i x hx)⟩, ?_⟩
      conv => whnf
      refine ⟨Nat × BitVec 32, fun y => y.1 ≤ 2 ∧ y.2 = hk (u ^^^ x.setWidth 32) y.1, fun x => ⟨33, [⟨1, [], .sl A n c⟩, ⟨5, [], .i .u32 (x.2.toNat : Int)⟩, ⟨10, [], .sl A n c⟩, ⟨11, [], .i .i64 n⟩, ⟨12, [], .i .i64 i⟩, ⟨20, [], .i .i64 x.1⟩], [], [], 0⟩, fun _ => m, fun x => 2 - x.1, ⟨(0, u ^^^ x.setWidth 32), rfl, ⟨Nat.zero_le _, rfl⟩, ?_⟩, ?_⟩
      · conv => whnf
        repeat (first | exact trivial | (refine ⟨by first | exact ⟨rfl, rfl, rfl⟩ | rfl | exact not32 _ | (show bits .xor .u32 (u.toNat : Int) (IntKind.u32.wrap (x.toNat : Int)) = _; rw [cvt8, bits_xor32]), ?_⟩; conv => whnf))
      · rintro ⟨k, v⟩ ⟨hk', hv⟩
        conv => whnf
        refine ⟨fun hlt => ?_, fun hge => ?_⟩
        · have hlt : k < 2 := by have h2 := of_decide_eq_true hlt; simp only at h2; omega
          conv => whnf
          refine ⟨by show (0:Int) ≤ 4; decide, ?_⟩
          conv => whnf
          refine ⟨?_, ?_⟩
          · show 0 ≤ bits .and .u32 (v.toNat : Int) 15 ∧ bits .and .u32 (v.toNat : Int) 15 < ((16 : Nat) : Int) ∧ _ = true
            rw [and15]
            exact ⟨Int.natCast_nonneg _, by exact_mod_cast and15_lt v, rfl⟩
          conv => whnf
          refine ⟨.i .u32 ((Plain.tab ((v &&& 15).toNat)).toNat : Int), ⟨rfl, rfl, rd1 (o := (v &&& 15).toNat) (by show 0 + (bits .and .u32 (v.toNat : Int) 15).toNat * 1 = _; rw [and15]; simp) ⟨_, rfl, by rw [add_base]; exact ht _ (and15_lt v)⟩⟩, ?_⟩
          conv => whnf
          refine ⟨(k + 1, Plain.half v), rfl, ⟨⟨by show k + 1 ≤ 2; omega, by simp only at hv; subst hv; rfl⟩, by show 2 - (k + 1) < 2 - k; omega⟩, ?_⟩
          conv => whnf
          repeat (first | exact trivial | (refine ⟨by first | exact ⟨rfl, rfl, rfl⟩ | rfl | exact wrap64 _ (by omega) | (show bits .xor .u32 ((v.toNat : Int).fdiv (2 ^ 4)) _ = _; rw [shr32, bits_xor32]; rfl), ?_⟩; conv => whnf))
        · have hge : k = 2 := by have h2 := of_decide_eq_false hge; simp only at h2 hk'; omega
          subst hge
          conv => whnf
          refine ⟨(i + 1, v), rfl, ⟨⟨by show i + 1 ≤ n; omega, by simp only at hv hu; rw [hv, hk2, hu]; exact (Plain.run_take _ _ _ _ hx).symm⟩, by show n - (i + 1) < n - i; omega⟩, ?_⟩
          conv => whnf
          repeat (first | exact trivial | (refine ⟨by first | exact ⟨rfl, rfl, rfl⟩ | rfl | exact wrap64 _ (by omega), ?_⟩; conv => whnf))
    · conv => whnf
      have hge : i = n := by have h2 := of_decide_eq_false hge; simp only at h2 hi; omega
      simp only at hu
      refine ⟨(), trivial, ?_⟩
      conv => whnf
      refine ⟨?_, ?_⟩
      · subst hge
        rw [hu, ← hln, List.take_length]
        exact not32 _
      conv => whnf
      exact fun _ _ h => h
end Go.Proofs.YtaeoibnbbpgajaaDoor.Sx
