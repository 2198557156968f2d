import Derived.Test.YtaeoibnbbpgajaaDoorSxZc
namespace Go.Proofs.YtaeoibnbbpgajaaDoor.Sx
theorem wrap32 (z : BitVec 32) : IntKind.u32.wrap (z.toNat : Int) = (z.toNat : Int) := by
  have := z.isLt
  simp only [IntKind.wrap, IntKind.bits, IntKind.signed]
  simp
  omega
theorem bits_xor32 (x y : BitVec 32) : bits .xor .u32 (x.toNat : Int) (y.toNat : Int) = ((x ^^^ y).toNat : Int) := by
  have hx := x.isLt
  have hy := y.isLt
  rw [← wrap32 (x ^^^ y), BitVec.toNat_xor]
  simp [bits, IntKind.bits]
  try rfl
theorem bits_and32 (x y : BitVec 32) : bits .and .u32 (x.toNat : Int) (y.toNat : Int) = ((x &&& y).toNat : Int) := by
  have hx := x.isLt
  have hy := y.isLt
  rw [← wrap32 (x &&& y), BitVec.toNat_and]
  simp [bits, IntKind.bits]
  try rfl
theorem shr32 (x : BitVec 32) (k : Nat) : (x.toNat : Int).fdiv (2 ^ k) = ((x >>> k).toNat : Int) := by
  have h2 : (2 : Int) ^ k = ((2 ^ k : Nat) : Int) := by simp
  rw [BitVec.toNat_ushiftRight, Nat.shiftRight_eq_div_pow, h2, Int.fdiv_eq_ediv_of_nonneg _ (Int.natCast_nonneg _)]
  rfl
theorem and15 (v : BitVec 32) : bits .and .u32 (v.toNat : Int) 15 = ((v &&& 15).toNat : Int) := bits_and32 v 15
theorem and15_lt (v : BitVec 32) : (v &&& 15).toNat < 16 := by
  rw [BitVec.toNat_and]
  exact Nat.lt_of_le_of_lt Nat.and_le_right (by decide)
theorem not32 (v : BitVec 32) : bits .xor .u32 (if IntKind.u32.signed = true then -1 else IntKind.u32.max) (v.toNat : Int) = ((~~~ v).toNat : Int) := by
  have h := bits_xor32 (BitVec.allOnes 32) v
  rw [BitVec.allOnes_xor] at h
  exact h
theorem wrap64 (k : Nat) (h : k < 2 ^ 62) : IntKind.i64.wrap ((k : Int) + 1) = ((k + 1 : Nat) : Int) := by
  have h1 : ((k : Int) + 1) % 2 ^ 64 = (k : Int) + 1 := by omega
  simp only [IntKind.wrap, IntKind.bits, IntKind.signed, h1]
  rw [if_neg (by simp; omega)]
  omega
end Go.Proofs.YtaeoibnbbpgajaaDoor.Sx
