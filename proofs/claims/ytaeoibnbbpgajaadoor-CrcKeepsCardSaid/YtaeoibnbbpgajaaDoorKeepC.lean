/- The plain law of the sums: words of 32 bits, no program. Then: Words of 32 bits, as the model computes with them. The plain law of bytes that are turned at up to four places beside each other. The sums: what the program's functions do, as told to the evaluator: Add, Sum, Parts and the document's answers. The document's sum, bit by bit. What the statements' functions answer: true. What the statements' functions answer: CrcParts, CrcMixes. What the statements' functions answer: CrcTells. What the statements' functions answer: CrcKeeps. What the statements' functions answer: CrcPieces. -/
import Derived.Test.YtaeoibnbbpgajaaDoorKeepB
import Derived.Test.YtaeoibnbbpgajaaDoorProg
namespace Go.Proofs.YtaeoibnbbpgajaaDoor.Plain

abbrev W32 := BitVec 32

/-- One bit of the document's sum. -/
def bit (r : W32) : W32 := if r &&& 1#32 = 1#32 then (r >>> 1) ^^^ 0xEDB88320#32 else r >>> 1
def bits4 (r : W32) : W32 := bit (bit (bit (bit r)))
def byte (r : W32) : W32 := bits4 (bits4 r)
def tabL : List W32 := [0x00000000#32, 0x1db71064#32, 0x3b6e20c8#32, 0x26d930ac#32, 0x76dc4190#32, 0x6b6b51f4#32, 0x4db26158#32, 0x5005713c#32,
  0xedb88320#32, 0xf00f9344#32, 0xd6d6a3e8#32, 0xcb61b38c#32, 0x9b64c2b0#32, 0x86d3d2d4#32, 0xa00ae278#32, 0xbdbdf21c#32]
def tab (i : Nat) : W32 := tabL.getD i 0#32
/-- Four bits by the table. -/
def half (r : W32) : W32 := (r >>> 4) ^^^ tab (r &&& 15#32).toNat

theorem bit_even (r : W32) (h : r &&& 1#32 = 0#32) : bit r = r >>> 1 := by
  unfold bit; rw [h]; simp

theorem and1 (r : W32) : r &&& 1#32 = 0#32 ∨ r &&& 1#32 = 1#32 := by
  have : ∀ b : Bool, (BitVec.ofBool b).zeroExtend 32 = 0#32 ∨ (BitVec.ofBool b).zeroExtend 32 = 1#32 := by decide
  have e : r &&& 1#32 = (BitVec.ofBool (r.getLsbD 0)).zeroExtend 32 := by
    ext i hi
    simp [BitVec.getElem_one]
    by_cases h : i = 0
    · subst h; simp
    · simp [h]
  rw [e]; exact this _

theorem xor4 (a b p : W32) : a ^^^ p ^^^ (b ^^^ p) = a ^^^ b := by
  ext i hi; simp; cases a[i] <;> cases b[i] <;> cases p[i] <;> rfl

theorem bit_xor (a b : W32) : bit (a ^^^ b) = bit a ^^^ bit b := by
  have e : (a ^^^ b) &&& 1#32 = (a &&& 1#32) ^^^ (b &&& 1#32) := by
    ext i hi; simp; cases a[i] <;> cases b[i] <;> simp
  have s : (a ^^^ b) >>> 1 = (a >>> 1) ^^^ (b >>> 1) := by
    ext i hi; simp
  unfold bit
  rw [e, s]
  rcases and1 a with h | h <;> rcases and1 b with g | g <;> rw [h, g] <;> simp
  · rw [BitVec.xor_assoc]
  · rw [BitVec.xor_assoc, BitVec.xor_assoc, BitVec.xor_comm _ (b >>> 1)]
  · rw [xor4]

theorem bit_zero : bit 0#32 = 0#32 := by decide
theorem bits4_xor (a b : W32) : bits4 (a ^^^ b) = bits4 a ^^^ bits4 b := by simp only [bits4, bit_xor]
theorem byte_xor (a b : W32) : byte (a ^^^ b) = byte a ^^^ byte b := by simp only [byte, bits4_xor]
theorem byte_zero : byte 0#32 = 0#32 := by decide

theorem bit_inj0 (c : W32) (h : bit c = 0#32) : c = 0#32 := by
  unfold bit at h
  rcases and1 c with g | g <;> rw [g] at h
  · simp at h
    ext i hi
    by_cases hi0 : i = 0
    · subst hi0
      have := congrArg (fun x : W32 => x[0]) g
      simpa using this
    · have := congrArg (fun x : W32 => x[i - 1]) h
      simp at this
      have e : 1 + (i - 1) = i := by omega
      rw [e] at this
      rw [← BitVec.getLsbD_eq_getElem]
      simpa using this
  · simp at h
    have := congrArg (fun x : W32 => x[31]) h
    simp at this

theorem bit_inj (a b : W32) (h : bit a = bit b) : a = b := by
  have : bit (a ^^^ b) = 0#32 := by rw [bit_xor, h, BitVec.xor_self]
  have := bit_inj0 _ this
  exact BitVec.xor_eq_zero_iff.1 this
theorem bits4_inj (a b : W32) (h : bits4 a = bits4 b) : a = b := bit_inj _ _ (bit_inj _ _ (bit_inj _ _ (bit_inj _ _ h)))
theorem byte_inj (a b : W32) (h : byte a = byte b) : a = b := bits4_inj _ _ (bits4_inj _ _ h)

/-- What has zeros in the lowest place is shifted. -/
theorem bit_shl (r : W32) (h : r.getLsbD 31 = false) : bit (r <<< 1) = r := by
  rw [bit_even]
  · ext i hi
    simp
    by_cases h31 : i = 31
    · subst h31; simp at h; simp [h]
    · rw [BitVec.getLsbD_eq_getElem hi]
      have : 1 + i < 32 := by omega
      simp [this]
  · ext i hi
    simp
    by_cases h0 : i = 0
    · subst h0; simp
    · simp [h0]

theorem bit4_hi (r : W32) : bits4 (r <<< 4 >>> 4 <<< 4) = r <<< 4 >>> 4 := by
  have e : (r <<< 4 >>> 4 <<< 4) = ((((r <<< 4 >>> 4) <<< 1) <<< 1) <<< 1) <<< 1 := by
    simp only [← BitVec.shiftLeft_add]
  rw [e]
  unfold bits4
  rw [bit_shl, bit_shl, bit_shl, bit_shl] <;> simp

theorem half_eq (r : W32) : half r = bits4 r := by
  have e : r = ((r >>> 4) <<< 4 >>> 4 <<< 4) ^^^ (r &&& 15#32) := by
    have h15 : ∀ i : Nat, i < 32 → (15#32).getLsbD i = decide (i < 4) := by decide
    apply BitVec.eq_of_getLsbD_eq
    intro i hi
    simp only [BitVec.getLsbD_xor, BitVec.getLsbD_and, h15 i hi]
    simp only [BitVec.getLsbD_shiftLeft, BitVec.getLsbD_ushiftRight]
    by_cases h4 : i < 4
    · simp [h4]
    · simp [h4]
      have : 4 + (i - 4) = i := by omega
      rw [this]
      simp [hi]
      omega
  have e2 : (r >>> 4) <<< 4 >>> 4 = r >>> 4 := by
    apply BitVec.eq_of_getLsbD_eq
    intro i hi
    simp only [BitVec.getLsbD_shiftLeft, BitVec.getLsbD_ushiftRight]
    by_cases h4 : 4 + i < 32
    · simp [h4]
    · simp [h4]
      rw [BitVec.getLsbD_of_ge _ _ (by omega)]
  have lo : ∀ n : Nat, n < 16 → tab (BitVec.ofNat 32 n).toNat = bits4 (BitVec.ofNat 32 n) := by decide
  have hn : (r &&& 15#32).toNat < 16 := by
    rw [BitVec.toNat_and]
    exact Nat.lt_succ_of_le Nat.and_le_right
  have := lo _ hn
  rw [BitVec.ofNat_toNat, BitVec.setWidth_eq] at this
  have h1 : bits4 r = bits4 ((r >>> 4) <<< 4 >>> 4 <<< 4) ^^^ bits4 (r &&& 15#32) := by rw [← bits4_xor, ← e]
  rw [h1, bit4_hi, e2, ← this]
  rfl

abbrev W8 := BitVec 8
/-- A byte that comes. -/
def step (r : W32) (x : W8) : W32 := byte (r ^^^ x.setWidth 32)
def run (r : W32) (xs : List W8) : W32 := xs.foldl step r
def add (s : W32) (xs : List W8) : W32 := ~~~ (run (~~~ s) xs)

theorem run_append (r : W32) (xs ys : List W8) : run r (xs ++ ys) = run (run r xs) ys := by simp [run]
theorem add_append (s : W32) (xs ys : List W8) : add s (xs ++ ys) = add (add s xs) ys := by simp [add, run_append]
theorem add_nil (s : W32) : add s [] = s := by simp [add, run]
theorem run_snoc (r : W32) (xs : List W8) (x : W8) : run r (xs ++ [x]) = step (run r xs) x := by simp [run]
theorem run_take (r : W32) (xs : List W8) (i : Nat) (x : W8) (h : xs[i]? = some x) : run r (xs.take (i + 1)) = step (run r (xs.take i)) x := by
  rw [List.take_add_one, h, Option.toList_some, run_snoc]
/-- The sum of several lists, one behind the other. -/
def parts (s : W32) (ls : List (List W8)) : W32 := ls.foldl add s
theorem parts_eq (ls : List (List W8)) : ∀ s, parts s ls = add s ls.flatten := by
  induction ls with
  | nil => intro s; simp [parts, add_nil]
  | cons l ls ih =>
    intro s
    show parts (add s l) ls = _
    rw [ih, List.flatten_cons, add_append]
theorem parts_take (s : W32) (ls : List (List W8)) (i : Nat) (x : List W8) (h : ls[i]? = some x) : parts s (ls.take (i + 1)) = add (parts s (ls.take i)) x := by
  rw [List.take_add_one, h, Option.toList_some]; simp [parts]

theorem step_inj (x : W8) (a b : W32) (h : step a x = step b x) : a = b := by
  have := byte_inj _ _ h
  have := congrArg (· ^^^ x.setWidth 32) this
  simpa [BitVec.xor_assoc] using this
theorem run_inj (xs : List W8) : ∀ a b : W32, run a xs = run b xs → a = b := by
  induction xs with
  | nil => intro a b h; exact h
  | cons x xs ih => intro a b h; exact step_inj x _ _ (ih _ _ h)
theorem not_inj (a b : W32) (h : ~~~ a = ~~~ b) : a = b := by
  have := congrArg (~~~ ·) h
  simpa using this
theorem add_inj (xs : List W8) (a b : W32) (h : add a xs = add b xs) : a = b := not_inj _ _ (run_inj xs _ _ (not_inj _ _ h))

theorem width_xor (x y : W8) : (x ^^^ y).setWidth 32 = x.setWidth 32 ^^^ y.setWidth 32 := by
  ext i hi; simp
/-- Three lists of one length. -/
theorem run_mix (xs : List (W8 × W8 × W8)) :
    ∀ a b c : W32, run (a ^^^ b ^^^ c) (xs.map fun p => p.1 ^^^ p.2.1 ^^^ p.2.2) = run a (xs.map (·.1)) ^^^ run b (xs.map (·.2.1)) ^^^ run c (xs.map (·.2.2)) := by
  induction xs with
  | nil => intro a b c; rfl
  | cons p xs ih =>
    intro a b c
    simp only [List.map_cons, run, List.foldl_cons] at ih ⊢
    have : step (a ^^^ b ^^^ c) (p.1 ^^^ p.2.1 ^^^ p.2.2) = step a p.1 ^^^ step b p.2.1 ^^^ step c p.2.2 := by
      unfold step
      rw [← byte_xor, ← byte_xor, width_xor, width_xor]
      congr 1
      ext i hi
      simp only [BitVec.getElem_xor]
      cases a[i] <;> cases b[i] <;> cases c[i] <;> simp
    rw [this]
    exact ih _ _ _
theorem add_mix (xs : List (W8 × W8 × W8)) :
    add 0#32 (xs.map fun p => p.1 ^^^ p.2.1 ^^^ p.2.2) = add 0#32 (xs.map (·.1)) ^^^ add 0#32 (xs.map (·.2.1)) ^^^ add 0#32 (xs.map (·.2.2)) := by
  unfold add
  have h := run_mix xs (~~~ 0#32) (~~~ 0#32) (~~~ 0#32)
  have e : (~~~ 0#32) ^^^ (~~~ 0#32) ^^^ (~~~ 0#32) = ~~~ 0#32 := by decide
  rw [e] at h
  rw [h]
  ext i hi
  simp

/-! ### up to four bytes beside each other -/
def sm (k : Nat) (q : W32) : Prop := ∀ i, k ≤ i → q.getLsbD i = false
theorem sm_byte (x : W8) : sm 8 (x.setWidth 32) := by
  intro i hi
  rw [BitVec.getLsbD_setWidth, BitVec.getLsbD_of_ge x i hi]
  simp
theorem sm_next {k : Nat} {q : W32} (h : sm k q) (x : W8) : sm (k + 8) ((q <<< 8) ^^^ x.setWidth 32) := by
  intro i hi
  rw [BitVec.getLsbD_xor, sm_byte x i (by omega), BitVec.getLsbD_shiftLeft, h (i - 8) (by omega)]
  simp
theorem byte_shl (r : W32) (h : sm 24 r) : byte (r <<< 8) = r := by
  have e : r <<< 8 = (((((((r <<< 1) <<< 1) <<< 1) <<< 1) <<< 1) <<< 1) <<< 1) <<< 1 := by
    simp only [← BitVec.shiftLeft_add]
  rw [e]
  unfold byte bits4
  have hb : ∀ k, k ≤ 7 → (r <<< k).getLsbD 31 = false := fun k hk => by
    rw [BitVec.getLsbD_shiftLeft, h (31 - k) (by omega)]; simp
  rw [bit_shl, bit_shl, bit_shl, bit_shl, bit_shl, bit_shl, bit_shl, bit_shl]
  all_goals first | exact h 31 (by omega) | exact hb 1 (by decide) | (simp only [← BitVec.shiftLeft_add]; exact hb _ (by decide))
theorem step_zero : step 0#32 0#8 = 0#32 := by decide
theorem run_zeros : ∀ n : Nat, run 0#32 (List.replicate n 0#8) = 0#32
  | 0 => rfl
  | n + 1 => by
    rw [List.replicate_succ]
    show run (step 0#32 0#8) (List.replicate n 0#8) = 0#32
    rw [step_zero]
    exact run_zeros n
theorem run_zero (xs : List W8) (h : ∀ x ∈ xs, x = 0#8) : run 0#32 xs = 0#32 := by
  rw [List.eq_replicate_of_mem h]
  exact run_zeros _
theorem run_xor2 : ∀ (xs ys : List W8), xs.length = ys.length → ∀ a b : W32, run a xs ^^^ run b ys = run (a ^^^ b) (List.zipWith (· ^^^ ·) xs ys)
  | [], [], _, a, b => rfl
  | x :: xs, y :: ys, h, a, b => by
    have hl : xs.length = ys.length := by simpa using h
    show run (step a x) xs ^^^ run (step b y) ys = run (step (a ^^^ b) (x ^^^ y)) _
    rw [run_xor2 xs ys hl]
    congr 1
    unfold step
    rw [← byte_xor, width_xor]
    congr 1
    ext i hi
    simp only [BitVec.getElem_xor]
    cases a[i] <;> cases b[i] <;> simp
  | [], _ :: _, h, _, _ => by simp at h
  | _ :: _, [], h, _, _ => by simp at h

/-- Out of nothing: a byte is undone. -/
theorem undo (r : W32) (x : W8) (q : W32) (hq : sm 24 q) (h : step r x = q) : r = (q <<< 8) ^^^ x.setWidth 32 := by
  have h1 : byte (r ^^^ x.setWidth 32) = byte (q <<< 8) := by rw [byte_shl q hq]; exact h
  have h2 := byte_inj _ _ h1
  have := congrArg (· ^^^ x.setWidth 32) h2
  simpa [BitVec.xor_assoc] using this
theorem apart {q : W32} (hq : sm 24 q) {x : W8} (h : (0#32) = (q <<< 8) ^^^ x.setWidth 32) : q = 0#32 ∧ x = 0#8 := by
  constructor
  · apply BitVec.eq_of_getLsbD_eq
    intro i hi
    have h1 := congrArg (fun v : W32 => v.getLsbD (i + 8)) h
    simp only [BitVec.getLsbD_xor, BitVec.getLsbD_shiftLeft, sm_byte x (i + 8) (by omega), BitVec.getLsbD_zero] at h1
    by_cases h24 : 24 ≤ i
    · rw [hq i h24]; simp
    · have e1 : i + 8 < 32 := by omega
      simp [e1] at h1
      simp [h1]
  · apply BitVec.eq_of_getLsbD_eq
    intro i hi
    have h1 := congrArg (fun v : W32 => v.getLsbD i) h
    simp only [BitVec.getLsbD_xor, BitVec.getLsbD_shiftLeft, BitVec.getLsbD_setWidth, BitVec.getLsbD_zero] at h1
    have e1 : i < 32 := by omega
    simp [hi, e1] at h1
    rw [BitVec.getLsbD_eq_getElem hi]
    simpa using h1
theorem tells (xs : List W8) (hl : xs.length ≤ 4) (h : run 0#32 xs = 0#32) : ∀ x ∈ xs, x = 0#8 := by
  have z : sm 24 0#32 := fun i _ => by simp
  have z8 : (0#32) <<< 8 = 0#32 := by decide
  match xs, hl, h with
  | [], _, _ => intro x hx; cases hx
  | [a], _, h =>
    have e1 := undo 0#32 a _ z h
    obtain ⟨_, ha⟩ := apart z e1
    intro x hx
    simp only [List.mem_singleton] at hx
    rw [hx, ha]
  | [a, b], _, h =>
    have e2 := undo _ b _ z h
    rw [z8, BitVec.zero_xor] at e2
    have s2 : sm 24 (b.setWidth 32) := fun i hi => sm_byte b i (by omega)
    have e1 := undo _ a _ s2 e2
    obtain ⟨hb, ha⟩ := apart s2 e1
    obtain ⟨_, hb⟩ := apart z (x := b) (by rw [z8, BitVec.zero_xor]; exact hb.symm)
    intro x hx
    simp only [List.mem_cons, List.not_mem_nil, or_false] at hx
    rcases hx with rfl | rfl
    · exact ha
    · exact hb
  | [a, b, c], _, h =>
    have e3 := undo _ c _ z h
    rw [z8, BitVec.zero_xor] at e3
    have s3 : sm 24 (c.setWidth 32) := fun i hi => sm_byte c i (by omega)
    have e2 := undo _ b _ s3 e3
    have s2 : sm 24 ((c.setWidth 32 <<< 8) ^^^ b.setWidth 32) := fun i hi => sm_next (sm_byte c) b i (by omega)
    have e1 := undo _ a _ s2 e2
    obtain ⟨h2, ha⟩ := apart s2 e1
    obtain ⟨h3, hb⟩ := apart s3 h2.symm
    obtain ⟨_, hc⟩ := apart z (x := c) (by rw [z8, BitVec.zero_xor]; exact h3.symm)
    intro x hx
    simp only [List.mem_cons, List.not_mem_nil, or_false] at hx
    rcases hx with rfl | rfl | rfl
    · exact ha
    · exact hb
    · exact hc
  | [a, b, c, d], _, h =>
    have e4 := undo _ d _ z h
    rw [z8, BitVec.zero_xor] at e4
    have s4 : sm 24 (d.setWidth 32) := fun i hi => sm_byte d i (by omega)
    have e3 := undo _ c _ s4 e4
    have s3 : sm 24 ((d.setWidth 32 <<< 8) ^^^ c.setWidth 32) := fun i hi => sm_next (sm_byte d) c i (by omega)
    have e2 := undo _ b _ s3 e3
    have s2 : sm 24 ((((d.setWidth 32 <<< 8) ^^^ c.setWidth 32) <<< 8) ^^^ b.setWidth 32) := sm_next (sm_next (sm_byte d) c) b
    have e1 := undo _ a _ s2 e2
    obtain ⟨h2, ha⟩ := apart s2 e1
    obtain ⟨h3, hb⟩ := apart s3 h2.symm
    obtain ⟨h4, hc⟩ := apart s4 h3.symm
    obtain ⟨_, hd⟩ := apart z (x := d) (by rw [z8, BitVec.zero_xor]; exact h4.symm)
    intro x hx
    simp only [List.mem_cons, List.not_mem_nil, or_false] at hx
    rcases hx with rfl | rfl | rfl | rfl
    · exact ha
    · exact hb
    · exact hc
    · exact hd
  | _ :: _ :: _ :: _ :: _ :: _, hl, _ => exact absurd hl (by simp)

/-- Bytes turned at up to four places beside each other turn the sum; and no others do. -/
theorem add_tells (s : W32) (pre mid mid' post : List W8) (hl : mid.length = mid'.length) (h4 : mid.length ≤ 4) (h : add s (pre ++ mid ++ post) = add s (pre ++ mid' ++ post)) : mid = mid' := by
  simp only [add_append] at h
  have h1 := add_inj _ _ _ h
  have h2 := not_inj _ _ h1
  have h3 := run_xor2 mid mid' hl (~~~ add s pre) (~~~ add s pre)
  rw [h2, BitVec.xor_self, BitVec.xor_self] at h3
  have h5 := tells _ (by rw [List.length_zipWith, ← hl, Nat.min_self]; exact h4) h3.symm
  apply List.ext_getElem hl
  intro i hi hi'
  have := h5 (mid[i] ^^^ mid'[i]) (by
    rw [List.mem_iff_getElem]
    exact ⟨i, by rw [List.length_zipWith, ← hl, Nat.min_self]; exact hi, by rw [List.getElem_zipWith]⟩)
  exact BitVec.xor_eq_zero_iff.1 this
end Go.Proofs.YtaeoibnbbpgajaaDoor.Plain

namespace Go.Proofs.YtaeoibnbbpgajaaDoor.Sx
theorem wrap32 (z : BitVec 32) : IntKind.u32.wrap (z.toNat : Int) = (z.toNat : Int) := by
  have := z.isLt
  simp only [IntKind.wrap, IntKind.bits, IntKind.signed]
  simp
  omega
theorem bits_xor32 (x y : BitVec 32) : bits .xor .u32 (x.toNat : Int) (y.toNat : Int) = ((x ^^^ y).toNat : Int) := by
  have hx := x.isLt
  have hy := y.isLt
  rw [← wrap32 (x ^^^ y), BitVec.toNat_xor]
  simp [bits, IntKind.bits]
  try rfl
theorem bits_and32 (x y : BitVec 32) : bits .and .u32 (x.toNat : Int) (y.toNat : Int) = ((x &&& y).toNat : Int) := by
  have hx := x.isLt
  have hy := y.isLt
  rw [← wrap32 (x &&& y), BitVec.toNat_and]
  simp [bits, IntKind.bits]
  try rfl
theorem shr32 (x : BitVec 32) (k : Nat) : (x.toNat : Int).fdiv (2 ^ k) = ((x >>> k).toNat : Int) := by
  have h2 : (2 : Int) ^ k = ((2 ^ k : Nat) : Int) := by simp
  rw [BitVec.toNat_ushiftRight, Nat.shiftRight_eq_div_pow, h2, Int.fdiv_eq_ediv_of_nonneg _ (Int.natCast_nonneg _)]
  rfl
theorem and15 (v : BitVec 32) : bits .and .u32 (v.toNat : Int) 15 = ((v &&& 15).toNat : Int) := bits_and32 v 15
theorem and15_lt (v : BitVec 32) : (v &&& 15).toNat < 16 := by
  rw [BitVec.toNat_and]
  exact Nat.lt_of_le_of_lt Nat.and_le_right (by decide)
theorem not32 (v : BitVec 32) : bits .xor .u32 (if IntKind.u32.signed = true then -1 else IntKind.u32.max) (v.toNat : Int) = ((~~~ v).toNat : Int) := by
  have h := bits_xor32 (BitVec.allOnes 32) v
  rw [BitVec.allOnes_xor] at h
  exact h
theorem wrap64 (k : Nat) (h : k < 2 ^ 62) : IntKind.i64.wrap ((k : Int) + 1) = ((k + 1 : Nat) : Int) := by
  have h1 : ((k : Int) + 1) % 2 ^ 64 = (k : Int) + 1 := by omega
  simp only [IntKind.wrap, IntKind.bits, IntKind.signed, h1]
  rw [if_neg (by simp; omega)]
  omega
end Go.Proofs.YtaeoibnbbpgajaaDoor.Sx

namespace Go.Proofs.YtaeoibnbbpgajaaDoor.Plain

def hits (at' : Int) (n i : Nat) : Bool := decide (0 ≤ at') && decide (at' < (n : Int) - (i : Int))
/-- The bytes behind i masks. -/
def ap (l : List W8) (at' : Int) (ms : Nat → W8) : Nat → List W8
  | 0 => l
  | i + 1 => if hits at' l.length i then (ap l at' ms i).modify (at'.toNat + i) (· ^^^ ms i) else ap l at' ms i
def un (n : Nat) (at' : Int) (ms : Nat → W8) : Nat → Bool
  | 0 => false
  | i + 1 => if hits at' n i then un n at' ms i || (ms i != 0#8) else un n at' ms i
theorem ap_len (l : List W8) (at' : Int) (ms : Nat → W8) : ∀ i, (ap l at' ms i).length = l.length
  | 0 => rfl
  | i + 1 => by
    unfold ap
    split
    · rw [List.length_modify, ap_len l at' ms i]
    · exact ap_len l at' ms i
theorem ap_get (l : List W8) (at' : Int) (ms : Nat → W8) (h0 : 0 ≤ at') (p : Nat) (hp : at'.toNat = p) : ∀ i j, (ap l at' ms i)[j]? = (l[j]?).map fun x => if p ≤ j ∧ j < p + i then x ^^^ ms (j - p) else x
  | 0, j => by
    have : ¬ (p ≤ j ∧ j < p + 0) := by omega
    simp only [this, if_false]
    cases h : l[j]? <;> simp [ap, h]
  | i + 1, j => by
    have ih := ap_get l at' ms h0 p hp i
    unfold ap
    split
    · rename_i hh
      rw [List.getElem?_modify, hp, ih]
      cases hl : l[j]? with
      | none => rfl
      | some x =>
        show some (if p + i = j then (if p ≤ j ∧ j < p + i then x ^^^ ms (j - p) else x) ^^^ ms i else (if p ≤ j ∧ j < p + i then x ^^^ ms (j - p) else x)) = some (if p ≤ j ∧ j < p + (i + 1) then x ^^^ ms (j - p) else x)
        by_cases hj : p + i = j
        · subst hj
          have h1 : ¬ (p ≤ p + i ∧ p + i < p + i) := by omega
          have h2 : p ≤ p + i ∧ p + i < p + (i + 1) := by omega
          rw [if_pos rfl, if_neg h1, if_pos h2, Nat.add_sub_cancel_left]
        · rw [if_neg hj]
          by_cases h1 : p ≤ j ∧ j < p + i
          · rw [if_pos h1, if_pos (by omega)]
          · rw [if_neg h1, if_neg (by omega)]
    · rename_i hh
      rw [ih]
      cases hl : l[j]? with
      | none => rfl
      | some x =>
        show some (if p ≤ j ∧ j < p + i then x ^^^ ms (j - p) else x) = some (if p ≤ j ∧ j < p + (i + 1) then x ^^^ ms (j - p) else x)
        by_cases hj : p + i = j
        · subst hj
          exfalso
          have hjl := (List.getElem?_eq_some_iff.1 hl).1
          simp only [hits, Bool.and_eq_true, decide_eq_true_eq, not_and] at hh
          have := hh h0
          omega
        · by_cases h1 : p ≤ j ∧ j < p + i
          · rw [if_pos h1, if_pos (by omega)]
          · rw [if_neg h1, if_neg (by omega)]
theorem un_iff (n : Nat) (at' : Int) (ms : Nat → W8) : ∀ i, un n at' ms i = true ↔ ∃ k, k < i ∧ hits at' n k = true ∧ ms k ≠ 0#8
  | 0 => by simp [un]
  | i + 1 => by
    unfold un
    split
    · rename_i hh
      simp only [Bool.or_eq_true, un_iff n at' ms i, bne_iff_ne]
      constructor
      · rintro (⟨k, h1, h2⟩ | h)
        · exact ⟨k, by omega, h2⟩
        · exact ⟨i, by omega, hh, h⟩
      · rintro ⟨k, h1, h2, h3⟩
        by_cases hk : k = i
        · subst hk; exact .inr h3
        · exact .inl ⟨k, by omega, h2, h3⟩
    · rename_i hh
      rw [un_iff n at' ms i]
      constructor
      · rintro ⟨k, h1, h2⟩
        exact ⟨k, by omega, h2⟩
      · rintro ⟨k, h1, h2, h3⟩
        by_cases hk : k = i
        · subst hk; exact absurd h2 hh
        · exact ⟨k, by omega, h2, h3⟩

theorem turned (l : List W8) (at' : Int) (ms : Nat → W8) : (add 0 l ≠ add 0 (ap l at' ms 4)) ↔ un l.length at' ms 4 = true := by
  by_cases h0 : 0 ≤ at'
  · obtain ⟨p, hp⟩ : ∃ p, at'.toNat = p := ⟨_, rfl⟩
    have hg := ap_get l at' ms h0 p hp 4
    have hlen := ap_len l at' ms 4
    generalize hc : ap l at' ms 4 = c at hg hlen
    rw [un_iff]
    constructor
    · intro hne
      apply Classical.byContradiction
      intro hno
      apply hne
      have : c = l := by
        apply List.ext_getElem?
        intro j
        rw [hg]
        cases hj : l[j]? with
        | none => rfl
        | some x =>
          simp only [Option.map_some, Option.some.injEq]
          split
          · rename_i hr
            have hjl : j < l.length := (List.getElem?_eq_some_iff.1 hj).1
            have : ms (j - p) = 0#8 := by
              apply Classical.byContradiction
              intro hm
              refine hno ⟨j - p, by omega, ?_, hm⟩
              simp only [hits, Bool.and_eq_true, decide_eq_true_eq]
              omega
            rw [this]; simp
          · rfl
      rw [this]
    · rintro ⟨k, hk, hh, hm⟩ heq
      simp only [hits, Bool.and_eq_true, decide_eq_true_eq] at hh
      have hkl : p + k < l.length := by omega
      have e1 : l = l.take p ++ (l.drop p).take 4 ++ (l.drop p).drop 4 := by
        rw [List.append_assoc, List.take_append_drop, List.take_append_drop]
      have e2 : c = l.take p ++ (c.drop p).take 4 ++ (l.drop p).drop 4 := by
        have a1 : c.take p = l.take p := by
          apply List.ext_getElem?
          intro j
          rw [List.getElem?_take, List.getElem?_take]
          split
          · rw [hg]
            have : ¬ (p ≤ j ∧ j < p + 4) := by omega
            simp [this]
          · rfl
        have a2 : (c.drop p).drop 4 = (l.drop p).drop 4 := by
          apply List.ext_getElem?
          intro j
          rw [List.drop_drop, List.drop_drop, List.getElem?_drop, List.getElem?_drop, hg]
          have : ¬ (p ≤ p + 4 + j ∧ p + 4 + j < p + 4) := by omega
          simp [this]
        rw [← a1, ← a2, List.append_assoc, List.take_append_drop, List.take_append_drop]
      rw [e1, e2] at heq
      have h4 := add_tells 0 (l.take p) ((l.drop p).take 4) ((c.drop p).take 4) ((l.drop p).drop 4) (by simp [hlen]) (by simp; omega) heq
      have h5 := congrArg (fun q => q[k]?) h4
      simp only [List.getElem?_take, hk, if_true, List.getElem?_drop, hg] at h5
      rw [List.getElem?_eq_getElem hkl] at h5
      have hr : p ≤ p + k ∧ p + k < p + 4 := by omega
      have hs : p + k - p = k := by omega
      simp only [Option.map_some, hr, and_self, if_true, hs, Option.some.injEq] at h5
      apply hm
      have := congrArg (l[p + k] ^^^ ·) h5
      simp only [BitVec.xor_self, ← BitVec.xor_assoc, BitVec.zero_xor] at this
      exact this.symm
  · have hh : ∀ n i, hits at' n i = false := fun n i => by simp [hits, h0]
    have hu : ∀ i, un l.length at' ms i = false := by
      intro i
      induction i with
      | zero => rfl
      | succ i ih => unfold un; rw [hh]; simpa using ih
    have ha : ∀ i, ap l at' ms i = l := by
      intro i
      induction i with
      | zero => rfl
      | succ i ih => unfold ap; rw [hh]; simpa using ih
    rw [hu, ha]
    simp
end Go.Proofs.YtaeoibnbbpgajaaDoor.Plain

namespace Go.Proofs.YtaeoibnbbpgajaaDoor.Sx
open Go

noncomputable def T0 : Tbl := [(3, ⟨.int .i64, 1, 8, .i .i64 0, false⟩), (4, ⟨.bool, 1, 1, .b false, false⟩), (5, ⟨.int .u8, 1, 1, .i .u8 0, false⟩), (22, ⟨.int .u32, 1, 4, .i .u32 0, false⟩), (23, ⟨.slice 5, 1, 24, .sl none 0 0, false⟩), (39, ⟨.array 16 22, 16, 64, .g [.gi 16 .u32 fun _ => 0], false⟩),
  (9, ⟨.string, 1, 16, .s ByteArray.empty, false⟩), (28, ⟨.array 4 5, 4, 4, .g [.gi 4 .u8 fun _ => 0], false⟩), (32, ⟨.slice 23, 1, 24, .sl none 0 0, false⟩), (35, ⟨.slice 3, 1, 24, .sl none 0 0, false⟩)]
theorem T0_ok : TOk Tryd.prog T0 := TOk.of (by
  intro p hp
  simp only [T0, List.mem_cons, List.not_mem_nil, or_false] at hp
  rcases hp with rfl | rfl | rfl | rfl | rfl | rfl | rfl | rfl | rfl | rfl
  all_goals exact ⟨by kernel_rfl, rfl, rfl, rfl, by kernel_rfl, fun h => by cases h⟩)

theorem rd1 {m : Mem} {A : Option Addr} {o o' : Nat} {v : Value} (ho : o' = o) (h : ∃ a, A = some a ∧ mcell m (a.add o) = some v) : rdM m A o' 1 [v] := by
  subst ho
  obtain ⟨a, ha, hm⟩ := h
  refine ⟨a, ha, rfl, fun j u hj => ?_⟩
  cases j with
  | zero => cases hj; exact hm
  | succ j => cases hj
theorem cvt8 (b : BitVec 8) : IntKind.u32.wrap (b.toNat : Int) = ((b.setWidth 32).toNat : Int) := by
  have h := wrap32 (b.setWidth 32)
  have e : (b.setWidth 32).toNat = b.toNat := by
    have := b.isLt
    rw [BitVec.toNat_setWidth]
    exact Nat.mod_eq_of_lt (by omega)
  rw [e] at h ⊢
  exact h

/-- What a row of bytes reads as, in memory that stays. -/
def Bytes (m : Mem) (A : Option Addr) (l : List (BitVec 8)) : Prop := ∀ j b, l[j]? = some b → ∃ a, A = some a ∧ mcell m (a.add j) = some (.int .u8 (b.toNat : Int))
/-- The program's table of sixteen words. -/
def Tabs (m : Mem) : Prop := ∀ j, j < 16 → mcell m ⟨0, j, none⟩ = some (.int .u32 ((Plain.tab j).toNat : Int))

def lvAll : List Nat := [0,1,2,3,4,5,6,7,8,9,10,11,12,13,14,15,16,17,18,19,20,21,22,23,24,25,26,27,28,29,30]

structure AddG where
  s : BitVec 32
  A : Option Addr
  c : Nat
  l : List (BitVec 8)
  m : Mem
def addSpec : Spec where
  A := AddG
  R := fun ⟨_, A, _, l, m⟩ => Bytes m A l ∧ Tabs m ∧ l.length < 2 ^ 62
  J := fun ⟨_, _, _, _, m⟩ => m
  args := fun ⟨s, A, c, l, _⟩ => [.i .u32 (s.toNat : Int), .sl A l.length c]
  h := fun _ => []
  nx := 0
  Bb := Unit
  C := fun _ _ => True
  out := fun ⟨s, _, _, l, _⟩ _ => .ret (.i .u32 ((Plain.add s l).toNat : Int))
  h2 := fun _ _ => []
  nx2 := 0
  md := 1

def hk (v : BitVec 32) : Nat → BitVec 32
  | 0 => v
  | k + 1 => Plain.half (hk v k)
theorem hk2 (v : BitVec 32) : hk v 2 = Plain.byte v := by
  show Plain.half (Plain.half v) = _
  rw [Plain.half_eq, Plain.half_eq]; rfl

def noCP : CallP := CPs []
theorem noCP_ok {P : Program} : CPOk P noCP := CPs_ok fun f s h => by cases h

def lvAdd : List Nat := [0,1,4,5,7,10,11,12,13,20,21]
set_option maxRecDepth 100000 in
theorem add_ok : SpecOk Tryd.prog 11 addSpec := by
  refine spec_of_exec (fn := Tryd.f11) (c := Tryd.f11.body.getD .skip) (d := 2) (lv := lvAdd) T0_ok noCP_ok (fun B => noDP_ok B) addSpec (by rfl) (by rfl) (by rfl) (fun _ => by show 2 ≤ 33; omega) ?_
  rintro ⟨s, A, c, l, m⟩ ⟨hb, ht, hn⟩
  generalize hln : l.length = n at hn
  conv => whnf
  rw [hln]
  refine ⟨Nat × BitVec 32, fun x => x.1 ≤ n ∧ x.2 = Plain.run (~~~ s) (l.take x.1), fun x => ⟨33, [⟨1, [], .sl A n c⟩, ⟨5, [], .i .u32 (x.2.toNat : Int)⟩, ⟨10, [], .sl A n c⟩, ⟨11, [], .i .i64 n⟩, ⟨12, [], .i .i64 x.1⟩], [], [], 0⟩, fun _ => m, fun x => n - x.1, ⟨(0, ~~~ s), rfl, ⟨Nat.zero_le _, rfl⟩, ?_⟩, ?_⟩
  · conv => whnf
    repeat (first | exact trivial | (refine ⟨by first | exact ⟨rfl, rfl, rfl⟩ | rfl | exact not32 _, ?_⟩; conv => whnf))
  · rintro ⟨i, u⟩ ⟨hi, hu⟩
    conv => whnf
    refine ⟨fun hlt => ?_, fun hge => ?_⟩
    · have hlt : i < n := by simpa using hlt
      have hx : l[i]? = some (l[i]'(by omega)) := List.getElem?_eq_getElem _
      generalize l[i]'(by omega) = x at hx
      conv => whnf
      refine ⟨⟨Int.natCast_nonneg _, by simpa using hlt, by obtain ⟨a, ha, _⟩ := hb i x hx; rw [ha]; rfl⟩, ?_⟩
      conv => whnf
      refine ⟨.i .u8 (x.toNat : Int), ⟨rfl, rfl, rd1 (o := i) (by simp) (hb i x hx)⟩, ?_⟩
      conv => whnf
      refine ⟨Nat × BitVec 32, fun y => y.1 ≤ 2 ∧ y.2 = hk (u ^^^ x.setWidth 32) y.1, fun x => ⟨33, [⟨1, [], .sl A n c⟩, ⟨5, [], .i .u32 (x.2.toNat : Int)⟩, ⟨10, [], .sl A n c⟩, ⟨11, [], .i .i64 n⟩, ⟨12, [], .i .i64 i⟩, ⟨20, [], .i .i64 x.1⟩], [], [], 0⟩, fun _ => m, fun x => 2 - x.1, ⟨(0, u ^^^ x.setWidth 32), rfl, ⟨Nat.zero_le _, rfl⟩, ?_⟩, ?_⟩
      · conv => whnf
        repeat (first | exact trivial | (refine ⟨by first | exact ⟨rfl, rfl, rfl⟩ | rfl | exact not32 _ | (show bits .xor .u32 (u.toNat : Int) (IntKind.u32.wrap (x.toNat : Int)) = _; rw [cvt8, bits_xor32]), ?_⟩; conv => whnf))
      · rintro ⟨k, v⟩ ⟨hk', hv⟩
        conv => whnf
        refine ⟨fun hlt => ?_, fun hge => ?_⟩
        · have hlt : k < 2 := by have h2 := of_decide_eq_true hlt; simp only at h2; omega
          conv => whnf
          refine ⟨by show (0:Int) ≤ 4; decide, ?_⟩
          conv => whnf
          refine ⟨?_, ?_⟩
          · show 0 ≤ bits .and .u32 (v.toNat : Int) 15 ∧ bits .and .u32 (v.toNat : Int) 15 < ((16 : Nat) : Int) ∧ _ = true
            rw [and15]
            exact ⟨Int.natCast_nonneg _, by exact_mod_cast and15_lt v, rfl⟩
          conv => whnf
          refine ⟨.i .u32 ((Plain.tab ((v &&& 15).toNat)).toNat : Int), ⟨rfl, rfl, rd1 (o := (v &&& 15).toNat) (by show 0 + (bits .and .u32 (v.toNat : Int) 15).toNat * 1 = _; rw [and15]; simp) ⟨_, rfl, by rw [add_base]; exact ht _ (and15_lt v)⟩⟩, ?_⟩
          conv => whnf
          refine ⟨(k + 1, Plain.half v), rfl, ⟨⟨by show k + 1 ≤ 2; omega, by simp only at hv; subst hv; rfl⟩, by show 2 - (k + 1) < 2 - k; omega⟩, ?_⟩
          conv => whnf
          repeat (first | exact trivial | (refine ⟨by first | exact ⟨rfl, rfl, rfl⟩ | rfl | exact wrap64 _ (by omega) | (show bits .xor .u32 ((v.toNat : Int).fdiv (2 ^ 4)) _ = _; rw [shr32, bits_xor32]; rfl), ?_⟩; conv => whnf))
        · have hge : k = 2 := by have h2 := of_decide_eq_false hge; simp only at h2 hk'; omega
          subst hge
          conv => whnf
          refine ⟨(i + 1, v), rfl, ⟨⟨by show i + 1 ≤ n; omega, by simp only at hv hu; rw [hv, hk2, hu]; exact (Plain.run_take _ _ _ _ hx).symm⟩, by show n - (i + 1) < n - i; omega⟩, ?_⟩
          conv => whnf
          repeat (first | exact trivial | (refine ⟨by first | exact ⟨rfl, rfl, rfl⟩ | rfl | exact wrap64 _ (by omega), ?_⟩; conv => whnf))
    · conv => whnf
      have hge : i = n := by have h2 := of_decide_eq_false hge; simp only at h2 hi; omega
      simp only at hu
      refine ⟨(), trivial, ?_⟩
      conv => whnf
      refine ⟨?_, ?_⟩
      · subst hge
        rw [hu, ← hln, List.take_length]
        exact not32 _
      conv => whnf
      exact fun _ _ h => h
end Go.Proofs.YtaeoibnbbpgajaaDoor.Sx

namespace Go.Proofs.YtaeoibnbbpgajaaDoor.Sx
open Go

def bt (v : BitVec 32) : Nat → BitVec 32
  | 0 => v
  | k + 1 => Plain.bit (bt v k)
theorem bt8 (v : BitVec 32) : bt v 8 = Plain.byte v := rfl
theorem and1' (v : BitVec 32) : bits .and .u32 (v.toNat : Int) 1 = ((v &&& 1#32).toNat : Int) := bits_and32 v 1

set_option maxRecDepth 100000 in
theorem refAdd_ok : SpecOk Tryd.prog 12 addSpec := by
  refine spec_of_exec (fn := Tryd.f12) (c := Tryd.f12.body.getD .skip) (d := 2) (lv := [0,1,4,5,6,7,8,14,25,33]) T0_ok noCP_ok (fun B => noDP_ok B) addSpec (by rfl) (by rfl) (by rfl) (fun _ => by show 2 ≤ 38; omega) ?_
  rintro ⟨s, A, c, l, m⟩ ⟨hb, ht, hn⟩
  generalize hln : l.length = n at hn
  conv => whnf
  rw [hln]
  refine ⟨Nat × BitVec 32, fun x => x.1 ≤ n ∧ x.2 = Plain.run (~~~ s) (l.take x.1), fun x => ⟨38, [⟨1, [], .sl A n c⟩, ⟨5, [], .i .u32 (x.2.toNat : Int)⟩, ⟨6, [], .i .i64 x.1⟩], [], [], 0⟩, fun _ => m, fun x => n - x.1, ⟨(0, ~~~ s), rfl, ⟨Nat.zero_le _, rfl⟩, ?_⟩, ?_⟩
  · conv => whnf
    repeat (first | exact trivial | (refine ⟨by first | exact ⟨rfl, rfl, rfl⟩ | rfl | exact not32 _, ?_⟩; conv => whnf))
  · rintro ⟨i, u⟩ ⟨hi, hu⟩
    conv => whnf
    refine ⟨fun hlt => ?_, fun hge => ?_⟩
    · have hlt : i < n := by simpa using hlt
      have hx : l[i]? = some (l[i]'(by omega)) := List.getElem?_eq_getElem _
      generalize l[i]'(by omega) = x at hx
      conv => whnf
      refine ⟨⟨Int.natCast_nonneg _, by simpa using hlt, by obtain ⟨a, ha, _⟩ := hb i x hx; rw [ha]; rfl⟩, ?_⟩
      conv => whnf
      refine ⟨.i .u8 (x.toNat : Int), ⟨rfl, rfl, rd1 (o := i) (by simp) (hb i x hx)⟩, ?_⟩
      conv => whnf
      refine ⟨Nat × BitVec 32, fun y => y.1 ≤ 8 ∧ y.2 = bt (u ^^^ x.setWidth 32) y.1, fun x => ⟨38, [⟨1, [], .sl A n c⟩, ⟨5, [], .i .u32 (x.2.toNat : Int)⟩, ⟨6, [], .i .i64 i⟩, ⟨7, [], .i .i64 x.1⟩], [], [], 0⟩, fun _ => m, fun x => 8 - x.1, ⟨(0, u ^^^ x.setWidth 32), rfl, ⟨Nat.zero_le _, rfl⟩, ?_⟩, ?_⟩
      · conv => whnf
        repeat (first | exact trivial | (refine ⟨by first | exact ⟨rfl, rfl, rfl⟩ | rfl | exact not32 _ | (show bits .xor .u32 (u.toNat : Int) (IntKind.u32.wrap (x.toNat : Int)) = _; rw [cvt8, bits_xor32]), ?_⟩; conv => whnf))
      · rintro ⟨k, v⟩ ⟨hk', hv⟩
        simp only at hv
        have hbit : bt (u ^^^ x.setWidth 32) (k + 1) = Plain.bit v := by rw [hv]; rfl
        conv => whnf
        refine ⟨fun hlt => ?_, fun hge => ?_⟩
        · have hlt : k < 8 := by have h2 := of_decide_eq_true hlt; simp only at h2; omega
          conv => whnf
          refine ⟨by show (0:Int) ≤ 1; decide, ?_⟩
          conv => whnf
          refine ⟨fun h1 => ?_, fun h1 => ?_⟩
          · have h1 : v &&& 1#32 = 1#32 := by
              have h2 : bits .and .u32 (v.toNat : Int) 1 = 1 := eq_of_beq h1
              rw [and1'] at h2
              apply BitVec.eq_of_toNat_eq
              exact_mod_cast h2
            conv => whnf
            refine ⟨(k + 1, (v >>> 1) ^^^ 0xEDB88320#32), rfl, ⟨⟨by show k + 1 ≤ 8; omega, by rw [hbit]; unfold Plain.bit; rw [if_pos h1]⟩, by show 8 - (k + 1) < 8 - k; omega⟩, ?_⟩
            conv => whnf
            repeat (first | exact trivial | (refine ⟨by first | exact ⟨rfl, rfl, rfl⟩ | rfl | exact wrap64 _ (by omega) | (show bits .xor .u32 ((v.toNat : Int).fdiv (2 ^ 1)) _ = _; rw [shr32]; exact bits_xor32 _ 0xEDB88320#32), ?_⟩; conv => whnf))
          · have h1 : ¬ (v &&& 1#32 = 1#32) := by
              have h2 : ¬ (bits .and .u32 (v.toNat : Int) 1 = 1) := by
                intro e
                have h3 : (bits .and .u32 (v.toNat : Int) 1 == 1) = false := h1
                rw [e] at h3
                cases h3
              rw [and1'] at h2
              intro e
              rw [e] at h2
              exact h2 rfl
            conv => whnf
            refine ⟨(k + 1, v >>> 1), rfl, ⟨⟨by show k + 1 ≤ 8; omega, by rw [hbit]; unfold Plain.bit; rw [if_neg h1]⟩, by show 8 - (k + 1) < 8 - k; omega⟩, ?_⟩
            conv => whnf
            repeat (first | exact trivial | (refine ⟨by first | exact ⟨rfl, rfl, rfl⟩ | rfl | exact wrap64 _ (by omega) | exact shr32 v 1, ?_⟩; conv => whnf))
        · have hge : k = 8 := by have h2 := of_decide_eq_false hge; simp only at h2 hk'; omega
          subst hge
          conv => whnf
          refine ⟨(i + 1, v), rfl, ⟨⟨by show i + 1 ≤ n; omega, by simp only at hu; rw [hv, bt8, hu]; exact (Plain.run_take _ _ _ _ hx).symm⟩, by show n - (i + 1) < n - i; omega⟩, ?_⟩
          conv => whnf
          repeat (first | exact trivial | (refine ⟨by first | exact ⟨rfl, rfl, rfl⟩ | rfl | exact wrap64 _ (by omega), ?_⟩; conv => whnf))
    · conv => whnf
      have hge : i = n := by have h2 := of_decide_eq_false hge; simp only at h2 hi; omega
      simp only at hu
      refine ⟨(), trivial, ?_⟩
      conv => whnf
      refine ⟨?_, ?_⟩
      · subst hge
        rw [hu, ← hln, List.take_length]
        exact not32 _
      conv => whnf
      exact fun _ _ h => h

def S1 : List (Nat × Spec) := [(11, addSpec), (12, addSpec)]
theorem S1_ok : CPOk Tryd.prog (CPs S1) := CPs_ok fun f s h => by
  simp only [S1, findS] at h
  split at h
  · rename_i hb; obtain rfl := beq_eq hb; cases h; exact add_ok
  · split at h
    · rename_i hb; obtain rfl := beq_eq hb; cases h; exact refAdd_ok
    · cases h

structure SumG where
  A : Option Addr
  c : Nat
  l : List (BitVec 8)
  m : Mem
def sumSpec : Spec where
  A := SumG
  R := fun ⟨A, _, l, m⟩ => Bytes m A l ∧ Tabs m ∧ l.length < 2 ^ 62
  J := fun ⟨_, _, _, m⟩ => m
  args := fun ⟨A, c, l, _⟩ => [.sl A l.length c]
  h := fun _ => []
  nx := 0
  Bb := Unit
  C := fun _ _ => True
  out := fun ⟨_, _, l, _⟩ _ => .ret (.i .u32 ((Plain.add 0 l).toNat : Int))
  h2 := fun _ _ => []
  nx2 := 0
  md := 1
theorem sum_ok : SpecOk Tryd.prog 13 sumSpec := by
  refine spec_of_exec (fn := Tryd.f13) (c := Tryd.f13.body.getD .skip) (d := 0) (lv := [0,2]) T0_ok S1_ok (fun B => noDP_ok B) sumSpec (by rfl) (by rfl) (by rfl) (fun _ => by show 1 ≤ 5; omega) ?_
  rintro ⟨A, c, l, m⟩ ⟨hb, ht, hn⟩
  conv => whnf
  refine ⟨⟨0, A, c, l, m⟩, ⟨hb, ht, hn⟩, ?_⟩
  conv => whnf
  repeat (first | (intro _ _; conv => whnf; done) | (refine ⟨by first | exact ⟨rfl, rfl, rfl⟩ | rfl | exact fun _ _ h => h, ?_⟩; conv => whnf))
  intro _ _
  conv => whnf
  refine ⟨(), trivial, ?_⟩
  conv => whnf
  repeat (first | exact fun _ _ h => h | (refine ⟨by first | exact ⟨rfl, rfl, rfl⟩ | rfl, ?_⟩; conv => whnf))
theorem refSum_ok : SpecOk Tryd.prog 14 sumSpec := by
  refine spec_of_exec (fn := Tryd.f14) (c := Tryd.f14.body.getD .skip) (d := 0) (lv := [0,2]) T0_ok S1_ok (fun B => noDP_ok B) sumSpec (by rfl) (by rfl) (by rfl) (fun _ => by show 1 ≤ 5; omega) ?_
  rintro ⟨A, c, l, m⟩ ⟨hb, ht, hn⟩
  conv => whnf
  refine ⟨⟨0, A, c, l, m⟩, ⟨hb, ht, hn⟩, ?_⟩
  conv => whnf
  repeat (first | (refine ⟨by first | exact ⟨rfl, rfl, rfl⟩ | rfl | exact fun _ _ h => h, ?_⟩; conv => whnf))
  intro _ _
  conv => whnf
  refine ⟨(), trivial, ?_⟩
  conv => whnf
  repeat (first | exact fun _ _ h => h | (refine ⟨by first | exact ⟨rfl, rfl, rfl⟩ | rfl, ?_⟩; conv => whnf))

/-- Several rows of bytes. -/
def Lists (m : Mem) (A : Option Addr) (ls : List (List (BitVec 8))) : Prop := ∀ j l, ls[j]? = some l → ∃ a B c, A = some a ∧ mcell m (a.add j) = some (.slice B l.length c) ∧ Bytes m B l ∧ l.length < 2 ^ 62
structure PartsG where
  A : Option Addr
  c : Nat
  ls : List (List (BitVec 8))
  m : Mem
def partsSpec : Spec where
  A := PartsG
  R := fun ⟨A, _, l, m⟩ => Lists m A l ∧ Tabs m ∧ l.length < 2 ^ 62
  J := fun ⟨_, _, _, m⟩ => m
  args := fun ⟨A, c, l, _⟩ => [.sl A l.length c]
  h := fun _ => []
  nx := 0
  Bb := Unit
  C := fun _ _ => True
  out := fun ⟨_, _, l, _⟩ _ => .ret (.i .u32 ((Plain.parts 0 l).toNat : Int))
  h2 := fun _ _ => []
  nx2 := 0
  md := 1
set_option maxRecDepth 100000 in
theorem parts_ok : SpecOk Tryd.prog 15 partsSpec := by
  refine spec_of_exec (fn := Tryd.f15) (c := Tryd.f15.body.getD .skip) (d := 1) (lv := [0,2,3,5,6,7,8,9]) T0_ok S1_ok (fun B => noDP_ok B) partsSpec (by rfl) (by rfl) (by rfl) (fun _ => by show 1 ≤ 17; omega) ?_
  rintro ⟨A, c, l, m⟩ ⟨hb, ht, hn⟩
  generalize hln : l.length = n at hn
  conv => whnf
  rw [hln]
  refine ⟨Nat × BitVec 32, fun x => x.1 ≤ n ∧ x.2 = Plain.parts 0 (l.take x.1), fun x => ⟨17, [⟨3, [], .i .u32 (x.2.toNat : Int)⟩, ⟨6, [], .sl A n c⟩, ⟨7, [], .i .i64 n⟩, ⟨8, [], .i .i64 x.1⟩], [], [], 0⟩, fun _ => m, fun x => n - x.1, ⟨(0, 0), rfl, ⟨Nat.zero_le _, rfl⟩, ?_⟩, ?_⟩
  · conv => whnf
    repeat (first | exact trivial | (refine ⟨by first | exact ⟨rfl, rfl, rfl⟩ | rfl, ?_⟩; conv => whnf))
  · rintro ⟨i, u⟩ ⟨hi, hu⟩
    conv => whnf
    refine ⟨fun hlt => ?_, fun hge => ?_⟩
    · have hlt : i < n := by simpa using hlt
      have hx : l[i]? = some (l[i]'(by omega)) := List.getElem?_eq_getElem _
      generalize l[i]'(by omega) = x at hx
      obtain ⟨a, D, cc, hA, hm, hD, hDl⟩ := hb i x hx
      conv => whnf
      refine ⟨⟨Int.natCast_nonneg _, by simpa using hlt, by rw [hA]; rfl⟩, ?_⟩
      conv => whnf
      refine ⟨.sl D x.length cc, ⟨rfl, rfl, rd1 (o := i) (by simp) ⟨a, hA, hm⟩⟩, ?_⟩
      conv => whnf
      refine ⟨⟨u, D, cc, x, m⟩, ⟨hD, ht, hDl⟩, ?_⟩
      conv => whnf
      repeat (first | (refine ⟨by first | exact ⟨rfl, rfl, rfl⟩ | rfl | exact fun _ _ h => h, ?_⟩; conv => whnf))
      intro _ _
      conv => whnf
      refine ⟨(i + 1, Plain.add u x), rfl, ⟨⟨by show i + 1 ≤ n; omega, by simp only at hu; rw [hu]; exact (Plain.parts_take _ _ _ _ hx).symm⟩, by show n - (i + 1) < n - i; omega⟩, ?_⟩
      conv => whnf
      repeat (first | exact trivial | (refine ⟨by first | exact ⟨rfl, rfl, rfl⟩ | rfl | exact wrap64 _ (by omega), ?_⟩; conv => whnf))
    · conv => whnf
      have hge : i = n := by have h2 := of_decide_eq_false hge; simp only at h2 hi; omega
      simp only at hu
      refine ⟨(), trivial, ?_⟩
      conv => whnf
      refine ⟨?_, ?_⟩
      · subst hge
        rw [hu, ← hln, List.take_length]
      conv => whnf
      exact fun _ _ h => h

def S2 : List (Nat × Spec) := [(11, addSpec), (12, addSpec), (13, sumSpec), (14, sumSpec), (15, partsSpec)]
theorem S2_ok : CPOk Tryd.prog (CPs S2) := CPs_ok fun f s h => by
  simp only [S2, findS] at h
  repeat' split at h
  all_goals first | (rename_i hb; obtain rfl := beq_eq hb; cases h; first | exact add_ok | exact refAdd_ok | exact sum_ok | exact refSum_ok | exact parts_ok) | cases h
end Go.Proofs.YtaeoibnbbpgajaaDoor.Sx

namespace Go.Proofs.YtaeoibnbbpgajaaDoor.Sx
open Go

def wakesSpec : Spec where
  A := Mem
  R := fun m => Tabs m
  J := fun m => m
  args := fun _ => []
  h := fun _ => []
  nx := 0
  Bb := Unit
  C := fun _ _ => True
  out := fun _ _ => .ret (.b true)
  h2 := fun _ _ => []
  nx2 := 0
theorem Sealed0.bytes {m m' : Mem} {A : Option Addr} {cap n : Nat} {l : List (BitVec 8)} (h : Sealed0 m m' A cap n 1 (l.map fun b => .int .u8 (b.toNat : Int))) : Bytes m' A l := by
  intro j b hj
  have hlen := h.len
  rw [List.length_map] at hlen
  have hjl : j < l.length := (List.getElem?_eq_some_iff.1 hj).1
  obtain ⟨a, ha, _, hc⟩ := h.rd (by omega)
  refine ⟨a, ha, ?_⟩
  have := hc j (.int .u8 (b.toNat : Int)) (by rw [List.getElem?_map, hj]; rfl)
  rwa [Nat.zero_add] at this
theorem Sealed0.tabs {m m' : Mem} {A : Option Addr} {cap n z : Nat} {xs : List Value} (h : Sealed0 m m' A cap n z xs) (ht : Tabs m) : Tabs m' := by
  intro j hj
  have := ht j hj
  unfold mcell at this ⊢
  cases hm : m 0 with
  | none => rw [hm] at this; cases this
  | some o => rw [hm] at this; rw [h.ext 0 o hm]; exact this
theorem Sealed.bytes {m m' : Mem} {A : Option Addr} {cap n : Nat} {l : List (BitVec 8)} (h : Sealed m m' A cap n 1 (l.map fun b => .int .u8 (b.toNat : Int))) : Bytes m' A l := Sealed0.bytes h.toSealed0
theorem Sealed.tabs {m m' : Mem} {A : Option Addr} {cap n z : Nat} {xs : List Value} (h : Sealed m m' A cap n z xs) (ht : Tabs m) : Tabs m' := h.toSealed0.tabs ht
set_option maxRecDepth 100000 in
theorem wakes_ok : SpecOk Tryd.prog 10 wakesSpec := by
  refine spec_of_exec (fn := Tryd.f10) (c := Tryd.f10.body.getD .skip) (d := 0) (lv := [0,1,2,3,4]) T0_ok S2_ok (fun B => noDP_ok B) wakesSpec (by rfl) (by rfl) (by rfl) (fun _ => by show 0 ≤ 5; omega) ?_
  intro m ht
  conv => whnf
  refine ⟨by omega, fun A cap m' hS => ?_⟩
  have hB := Sealed0.bytes (l := [49,50,51,52,53,54,55,56,57]) hS
  have hT := hS.tabs ht
  conv => whnf
  refine ⟨⟨A, cap, [49,50,51,52,53,54,55,56,57], m'⟩, ⟨hB, hT, by show 9 < 2 ^ 62; decide⟩, ?_⟩
  conv => whnf
  repeat (first | (refine ⟨by first | exact ⟨rfl, rfl, rfl⟩ | rfl | exact fun _ _ h => h, ?_⟩; conv => whnf))
  intro _ _
  conv => whnf
  refine ⟨(), trivial, ?_⟩
  conv => whnf
  refine ⟨?_, ?_⟩
  · show (((Plain.add 0 [49,50,51,52,53,54,55,56,57]).toNat : Int) == 3421780262) = true
    decide +kernel
  · conv => whnf
    exact hS.ext

def S3 : List (Nat × Spec) := (10, wakesSpec) :: S2
theorem S3_ok : CPOk Tryd.prog (CPs S3) := CPs_ok fun f s h => by
  simp only [S3, S2, findS] at h
  repeat' split at h
  all_goals first | (rename_i hb; obtain rfl := beq_eq hb; cases h; first | exact wakes_ok | exact add_ok | exact refAdd_ok | exact sum_ok | exact refSum_ok | exact parts_ok) | cases h
def lawOut : Out := .ret (.b true)
def lawAdds : Spec where
  A := AddG
  R := fun ⟨_, A, _, l, m⟩ => Bytes m A l ∧ Tabs m ∧ l.length < 2 ^ 62
  J := fun ⟨_, _, _, _, m⟩ => m
  args := fun ⟨s, A, c, l, _⟩ => [.i .u32 (s.toNat : Int), .sl A l.length c]
  h := fun _ => []
  nx := 0
  Bb := Unit
  C := fun _ _ => True
  out := fun _ _ => lawOut
  h2 := fun _ _ => []
  nx2 := 0
set_option maxRecDepth 100000 in
theorem lawAdds_ok : SpecOk Tryd.prog 3 lawAdds := by
  refine spec_of_exec (fn := Tryd.f3) (c := Tryd.f3.body.getD .skip) (d := 0) (lv := lvAll) T0_ok S3_ok (fun B => noDP_ok B) lawAdds (by rfl) (by rfl) (by rfl) (fun _ => by show 2 ≤ 22; omega) ?_
  rintro ⟨s, A, c, l, m⟩ ⟨hb, ht, hn⟩
  conv => whnf
  repeat (first | (refine ⟨by first | exact ⟨rfl, rfl, rfl⟩ | rfl | exact fun _ _ h => h, ?_⟩; conv => whnf) | (refine ⟨fun _ => ?_, fun h => by first | cases h | (exfalso; simp at h; done)⟩; conv => whnf) | (refine ⟨fun h => by first | cases h | (exfalso; simp at h; done), fun _ => ?_⟩; conv => whnf))
  refine ⟨m, ht, ?_⟩
  conv => whnf
  repeat (first | (refine ⟨by first | exact ⟨rfl, rfl, rfl⟩ | rfl | exact fun _ _ h => h, ?_⟩; conv => whnf) | (refine ⟨fun _ => ?_, fun h => by first | cases h | (exfalso; simp at h; done)⟩; conv => whnf) | (refine ⟨fun h => by first | cases h | (exfalso; simp at h; done), fun _ => ?_⟩; conv => whnf))
  intro _ _
  conv => whnf
  repeat (first | (refine ⟨by first | exact ⟨rfl, rfl, rfl⟩ | rfl | exact fun _ _ h => h, ?_⟩; conv => whnf) | (refine ⟨fun _ => ?_, fun h => by first | cases h | (exfalso; simp at h; done)⟩; conv => whnf) | (refine ⟨fun h => by first | cases h | (exfalso; simp at h; done), fun _ => ?_⟩; conv => whnf))
  refine ⟨⟨s, A, c, l, m⟩, ⟨hb, ht, hn⟩, ?_⟩
  conv => whnf
  repeat (first | (refine ⟨by first | exact ⟨rfl, rfl, rfl⟩ | rfl | exact fun _ _ h => h, ?_⟩; conv => whnf) | (refine ⟨fun _ => ?_, fun h => by first | cases h | (exfalso; simp at h; done)⟩; conv => whnf) | (refine ⟨fun h => by first | cases h | (exfalso; simp at h; done), fun _ => ?_⟩; conv => whnf))
  intro _ _
  conv => whnf
  repeat (first | (refine ⟨by first | exact ⟨rfl, rfl, rfl⟩ | rfl | exact fun _ _ h => h, ?_⟩; conv => whnf) | (refine ⟨fun _ => ?_, fun h => by first | cases h | (exfalso; simp at h; done)⟩; conv => whnf) | (refine ⟨fun h => by first | cases h | (exfalso; simp at h; done), fun _ => ?_⟩; conv => whnf))
  refine ⟨⟨s, A, c, l, m⟩, ⟨hb, ht, hn⟩, ?_⟩
  conv => whnf
  repeat (first | (refine ⟨by first | exact ⟨rfl, rfl, rfl⟩ | rfl | exact fun _ _ h => h, ?_⟩; conv => whnf) | (refine ⟨fun _ => ?_, fun h => by first | cases h | (exfalso; simp at h; done)⟩; conv => whnf) | (refine ⟨fun h => by first | cases h | (exfalso; simp at h; done), fun _ => ?_⟩; conv => whnf))
  intro _ _
  conv => whnf
  repeat (first | (refine ⟨by first | exact ⟨rfl, rfl, rfl⟩ | rfl | exact fun _ _ h => h, ?_⟩; conv => whnf) | (refine ⟨fun _ => ?_, fun h => by first | cases h | (exfalso; simp at h; done)⟩; conv => whnf) | (refine ⟨fun h => by first | cases h | (exfalso; simp at h; done), fun _ => ?_⟩; conv => whnf))
  refine ⟨⟨A, c, l, m⟩, ⟨hb, ht, hn⟩, ?_⟩
  conv => whnf
  repeat (first | (refine ⟨by first | exact ⟨rfl, rfl, rfl⟩ | rfl | exact fun _ _ h => h, ?_⟩; conv => whnf) | (refine ⟨fun _ => ?_, fun h => by first | cases h | (exfalso; simp at h; done)⟩; conv => whnf) | (refine ⟨fun h => by first | cases h | (exfalso; simp at h; done), fun _ => ?_⟩; conv => whnf))
  intro _ _
  conv => whnf
  repeat (first | (refine ⟨by first | exact ⟨rfl, rfl, rfl⟩ | rfl | exact fun _ _ h => h, ?_⟩; conv => whnf) | (refine ⟨fun _ => ?_, fun h => by first | cases h | (exfalso; simp at h; done)⟩; conv => whnf) | (refine ⟨fun h => by first | cases h | (exfalso; simp at h; done), fun _ => ?_⟩; conv => whnf))
  refine ⟨⟨A, c, l, m⟩, ⟨hb, ht, hn⟩, ?_⟩
  conv => whnf
  repeat (first | (refine ⟨by first | exact ⟨rfl, rfl, rfl⟩ | rfl | exact fun _ _ h => h, ?_⟩; conv => whnf) | (refine ⟨fun _ => ?_, fun h => by first | cases h | (exfalso; simp at h; done)⟩; conv => whnf) | (refine ⟨fun h => by first | cases h | (exfalso; simp at h; done), fun _ => ?_⟩; conv => whnf))
  intro _ _
  conv => whnf
  refine ⟨(), trivial, ?_⟩
  conv => whnf
  refine ⟨by simp, ?_⟩
  conv => whnf
  exact fun _ _ h => h

structure ApartG where
  x : BitVec 32
  y : BitVec 32
  A : Option Addr
  c : Nat
  l : List (BitVec 8)
  m : Mem
def lawApart : Spec where
  A := ApartG
  R := fun ⟨_, _, A, _, l, m⟩ => Bytes m A l ∧ Tabs m ∧ l.length < 2 ^ 62
  J := fun ⟨_, _, _, _, _, m⟩ => m
  args := fun ⟨x, y, A, c, l, _⟩ => [.i .u32 (x.toNat : Int), .i .u32 (y.toNat : Int), .sl A l.length c]
  h := fun _ => []
  nx := 0
  Bb := Unit
  C := fun _ _ => True
  out := fun _ _ => lawOut
  h2 := fun _ _ => []
  nx2 := 0
theorem apart_eq (x y : BitVec 32) (l : List (BitVec 8)) : ((((Plain.add x l).toNat : Int) == ((Plain.add y l).toNat : Int)) == ((x.toNat : Int) == (y.toNat : Int))) = true := by
  by_cases h : x = y
  · subst h; simp
  · have h1 : Plain.add x l ≠ Plain.add y l := fun e => h (Plain.add_inj l x y e)
    have h2 : ¬ ((Plain.add x l).toNat : Int) = ((Plain.add y l).toNat : Int) := fun e => h1 (BitVec.eq_of_toNat_eq (by exact_mod_cast e))
    have h3 : ¬ (x.toNat : Int) = (y.toNat : Int) := fun e => h (BitVec.eq_of_toNat_eq (by exact_mod_cast e))
    rw [beq_eq_false_iff_ne.2 h2, beq_eq_false_iff_ne.2 h3]; rfl
set_option maxRecDepth 100000 in
theorem lawApart_ok : SpecOk Tryd.prog 6 lawApart := by
  refine spec_of_exec (fn := Tryd.f6) (c := Tryd.f6.body.getD .skip) (d := 0) (lv := lvAll) T0_ok S3_ok (fun B => noDP_ok B) lawApart (by rfl) (by rfl) (by rfl) (fun _ => by show 3 ≤ 21; omega) ?_
  rintro ⟨x, y, A, c, l, m⟩ ⟨hb, ht, hn⟩
  conv => whnf
  repeat (first | (refine ⟨by first | exact ⟨rfl, rfl, rfl⟩ | rfl | exact fun _ _ h => h, ?_⟩; conv => whnf) | (refine ⟨fun _ => ?_, fun h => by first | cases h | (exfalso; simp at h; done)⟩; conv => whnf) | (refine ⟨fun h => by first | cases h | (exfalso; simp at h; done), fun _ => ?_⟩; conv => whnf))
  refine ⟨m, ht, ?_⟩
  conv => whnf
  repeat (first | (refine ⟨by first | exact ⟨rfl, rfl, rfl⟩ | rfl | exact fun _ _ h => h, ?_⟩; conv => whnf) | (refine ⟨fun _ => ?_, fun h => by first | cases h | (exfalso; simp at h; done)⟩; conv => whnf) | (refine ⟨fun h => by first | cases h | (exfalso; simp at h; done), fun _ => ?_⟩; conv => whnf))
  intro _ _
  conv => whnf
  repeat (first | (refine ⟨by first | exact ⟨rfl, rfl, rfl⟩ | rfl | exact fun _ _ h => h, ?_⟩; conv => whnf) | (refine ⟨fun _ => ?_, fun h => by first | cases h | (exfalso; simp at h; done)⟩; conv => whnf) | (refine ⟨fun h => by first | cases h | (exfalso; simp at h; done), fun _ => ?_⟩; conv => whnf))
  refine ⟨⟨x, A, c, l, m⟩, ⟨hb, ht, hn⟩, ?_⟩
  conv => whnf
  repeat (first | (refine ⟨by first | exact ⟨rfl, rfl, rfl⟩ | rfl | exact fun _ _ h => h, ?_⟩; conv => whnf) | (refine ⟨fun _ => ?_, fun h => by first | cases h | (exfalso; simp at h; done)⟩; conv => whnf) | (refine ⟨fun h => by first | cases h | (exfalso; simp at h; done), fun _ => ?_⟩; conv => whnf))
  intro _ _
  conv => whnf
  repeat (first | (refine ⟨by first | exact ⟨rfl, rfl, rfl⟩ | rfl | exact fun _ _ h => h, ?_⟩; conv => whnf) | (refine ⟨fun _ => ?_, fun h => by first | cases h | (exfalso; simp at h; done)⟩; conv => whnf) | (refine ⟨fun h => by first | cases h | (exfalso; simp at h; done), fun _ => ?_⟩; conv => whnf))
  refine ⟨⟨y, A, c, l, m⟩, ⟨hb, ht, hn⟩, ?_⟩
  conv => whnf
  repeat (first | (refine ⟨by first | exact ⟨rfl, rfl, rfl⟩ | rfl | exact fun _ _ h => h, ?_⟩; conv => whnf) | (refine ⟨fun _ => ?_, fun h => by first | cases h | (exfalso; simp at h; done)⟩; conv => whnf) | (refine ⟨fun h => by first | cases h | (exfalso; simp at h; done), fun _ => ?_⟩; conv => whnf))
  intro _ _
  conv => whnf
  refine ⟨(), trivial, ?_⟩
  conv => whnf
  refine ⟨by first | exact apart_eq x y l | (rw [if_pos rfl]; exact apart_eq x y l), ?_⟩
  conv => whnf
  exact fun _ _ h => h
end Go.Proofs.YtaeoibnbbpgajaaDoor.Sx

namespace Go.Proofs.YtaeoibnbbpgajaaDoor.Sx
open Go

def lawParts : Spec where
  A := PartsG
  R := fun ⟨A, _, l, m⟩ => Lists m A l ∧ Tabs m ∧ l.length < 2 ^ 62
  J := fun ⟨_, _, _, m⟩ => m
  args := fun ⟨A, c, l, _⟩ => [.sl A l.length c]
  h := fun _ => []
  nx := 0
  Bb := Unit
  C := fun _ _ => True
  out := fun _ _ => lawOut
  h2 := fun _ _ => []
  nx2 := 0
set_option maxRecDepth 100000 in
theorem lawParts_ok : SpecOk Tryd.prog 7 lawParts := by
  refine spec_of_exec (fn := Tryd.f7) (c := Tryd.f7.body.getD .skip) (d := 1) (lv := lvAll) T0_ok S3_ok (fun B => noDP_ok B) lawParts (by rfl) (by rfl) (by rfl) (fun _ => by show 1 ≤ 23; omega) ?_
  rintro ⟨A, c, l, m⟩ ⟨hb, ht, hn⟩
  generalize hln : l.length = n at hn
  conv => whnf
  rw [hln]
  refine ⟨Nat × BitVec 32, fun x => x.1 ≤ n ∧ x.2 = Plain.parts 0 (l.take x.1), fun x => ⟨23, [⟨0, [], .sl A n c⟩, ⟨2, [], .b false⟩, ⟨3, [], .i .u32 (x.2.toNat : Int)⟩, ⟨6, [], .sl A n c⟩, ⟨7, [], .i .i64 n⟩, ⟨8, [], .i .i64 x.1⟩], [], [], 0⟩, fun _ => m, fun x => n - x.1, ⟨(0, 0), rfl, ⟨Nat.zero_le _, rfl⟩, ?_⟩, ?_⟩
  · conv => whnf
    repeat (first | exact trivial | (refine ⟨by first | exact ⟨rfl, rfl, rfl⟩ | rfl, ?_⟩; conv => whnf))
  · rintro ⟨i, u⟩ ⟨hi, hu⟩
    conv => whnf
    refine ⟨fun hlt => ?_, fun hge => ?_⟩
    · have hlt : i < n := by simpa using hlt
      have hx : l[i]? = some (l[i]'(by omega)) := List.getElem?_eq_getElem _
      generalize l[i]'(by omega) = x at hx
      obtain ⟨a, D, cc, hA, hm, hD, hDl⟩ := hb i x hx
      conv => whnf
      refine ⟨⟨Int.natCast_nonneg _, by simpa using hlt, by rw [hA]; rfl⟩, ?_⟩
      conv => whnf
      refine ⟨.sl D x.length cc, ⟨rfl, rfl, rd1 (o := i) (by simp) ⟨a, hA, hm⟩⟩, ?_⟩
      conv => whnf
      refine ⟨⟨u, D, cc, x, m⟩, ⟨hD, ht, hDl⟩, ?_⟩
      conv => whnf
      repeat (first | (refine ⟨by first | exact ⟨rfl, rfl, rfl⟩ | rfl | exact fun _ _ h => h, ?_⟩; conv => whnf))
      intro _ _
      conv => whnf
      refine ⟨(i + 1, Plain.add u x), rfl, ⟨⟨by show i + 1 ≤ n; omega, by simp only at hu; rw [hu]; exact (Plain.parts_take _ _ _ _ hx).symm⟩, by show n - (i + 1) < n - i; omega⟩, ?_⟩
      conv => whnf
      repeat (first | exact trivial | (refine ⟨by first | exact ⟨rfl, rfl, rfl⟩ | rfl | exact wrap64 _ (by omega), ?_⟩; conv => whnf))
    · conv => whnf
      have hge : i = n := by have h2 := of_decide_eq_false hge; simp only at h2 hi; omega
      simp only at hu
      have hu : u = Plain.parts 0 l := by rw [hu, hge, ← hln, List.take_length]
      subst hu
      refine ⟨m, ht, ?_⟩
      conv => whnf
      repeat (first | (refine ⟨by first | exact ⟨rfl, rfl, rfl⟩ | rfl | exact fun _ _ h => h, ?_⟩; conv => whnf))
      intro _ _
      conv => whnf
      refine ⟨fun _ => ?_, fun h => by cases h⟩
      conv => whnf
      refine ⟨⟨A, c, l, m⟩, ⟨hb, ht, by rw [hln]; exact hn⟩, ?_⟩
      conv => whnf
      repeat (first | (refine ⟨by first | exact ⟨rfl, rfl, rfl⟩ | rfl | exact fun _ _ h => h | exact ⟨rfl, hln.symm, rfl⟩, ?_⟩; conv => whnf))
      intro _ _
      conv => whnf
      refine ⟨(), trivial, ?_⟩
      conv => whnf
      refine ⟨by simp, ?_⟩
      conv => whnf
      exact fun _ _ h => h

structure MixG where
  A : Option Addr
  c : Nat
  a : List (BitVec 8)
  B : Option Addr
  d : Nat
  b : List (BitVec 8)
  D : Option Addr
  e : Nat
  l : List (BitVec 8)
  m : Mem
def lawMixes : Spec where
  A := MixG
  R := fun ⟨A, c, a, B, d, b, D, e, l, m⟩ => Bytes m A a ∧ Bytes m B b ∧ Bytes m D l ∧ Tabs m ∧ a.length ≤ reachBytes ∧ b.length ≤ reachBytes ∧ l.length ≤ reachBytes ∧ a.length ≤ c ∧ b.length ≤ d ∧ l.length ≤ e
  J := fun ⟨_, _, _, _, _, _, _, _, _, m⟩ => m
  args := fun ⟨A, c, a, B, d, b, D, e, l, _⟩ => [.sl A a.length c, .sl B b.length d, .sl D l.length e]
  h := fun _ => []
  nx := 0
  Bb := Unit
  C := fun _ _ => True
  out := fun _ _ => lawOut
  h2 := fun _ _ => []
  nx2 := 0
def mixL (a b c : List (BitVec 8)) : List (BitVec 8 × BitVec 8 × BitVec 8) := a.zip (b.zip c)
def bv8 (b : BitVec 8) : Value := .int .u8 (b.toNat : Int)
theorem min3 (x y z : Nat) : (if (z : Int) < (if (y : Int) < (x : Int) then (y : Int) else (x : Int)) then (z : Int) else (if (y : Int) < (x : Int) then (y : Int) else (x : Int))) = ((min x (min y z) : Nat) : Int) := by
  split <;> split <;> omega
theorem mixL_length (a b c : List (BitVec 8)) : (mixL a b c).length = min a.length (min b.length c.length) := by simp [mixL]
theorem mixL_get {a b c : List (BitVec 8)} {i : Nat} (h : i < min a.length (min b.length c.length)) : (mixL a b c)[i]? = some (a[i]'(by omega), b[i]'(by omega), c[i]'(by omega)) := by
  unfold mixL
  rw [List.getElem?_eq_getElem (by simp; omega), List.getElem_zip, List.getElem_zip]
theorem bits_xor8 (x y : BitVec 8) : bits .xor .u8 (x.toNat : Int) (y.toNat : Int) = ((x ^^^ y).toNat : Int) := by
  have hx := x.isLt
  have hy := y.isLt
  have hz := (x ^^^ y).isLt
  have h : IntKind.u8.wrap ((x ^^^ y).toNat : Int) = ((x ^^^ y).toNat : Int) := by
    generalize (x ^^^ y).toNat = q at hz
    simp only [IntKind.wrap, IntKind.bits, IntKind.signed]
    simp
    omega
  rw [← h, BitVec.toNat_xor]
  simp [bits, IntKind.bits]
  try rfl
def mix1 (p : BitVec 8 × BitVec 8 × BitVec 8) : BitVec 8 := p.1 ^^^ p.2.1 ^^^ p.2.2
/-- The row that is under way: what is mixed already, then zeros. -/
def rowM (a b c : List (BitVec 8)) (n i : Nat) : List (BitVec 8) := ((mixL a b c).map mix1).take i ++ List.replicate (n - i) 0#8
theorem rowM_set {a b c : List (BitVec 8)} {n i : Nat} (hn : n = min a.length (min b.length c.length)) (hi : i < n) {x y z : BitVec 8} (hx : a[i]? = some x) (hy : b[i]? = some y) (hz : c[i]? = some z) :
    ((rowM a b c n i).map bv8).take i ++ ([bv8 (x ^^^ y ^^^ z)] ++ ((rowM a b c n i).map bv8).drop (i + 1)) = (rowM a b c n (i + 1)).map bv8 := by
  have hl : (((mixL a b c).map mix1).take i).length = i := by rw [List.length_take, List.length_map, mixL_length]; omega
  have hg : ((mixL a b c).map mix1)[i]? = some (x ^^^ y ^^^ z) := by
    rw [List.getElem?_map, mixL_get (by omega)]
    have h1 : i < a.length := by omega
    have h2 : i < b.length := by omega
    have h3 : i < c.length := by omega
    rw [List.getElem?_eq_getElem h1, Option.some.injEq] at hx
    rw [List.getElem?_eq_getElem h2, Option.some.injEq] at hy
    rw [List.getElem?_eq_getElem h3, Option.some.injEq] at hz
    simp only [Option.map_some, mix1, hx, hy, hz]
  have hr : n - i = (n - (i + 1)) + 1 := by omega
  unfold rowM
  rw [List.take_add_one, hg, hr, List.replicate_succ]
  rw [List.map_append, List.take_left' (by rw [List.length_map, hl])]
  rw [List.drop_append]
  have e1 : (List.map bv8 (List.take i (List.map mix1 (mixL a b c)))).length = i := by rw [List.length_map, hl]
  rw [e1, List.drop_eq_nil_of_le (by rw [e1]; omega)]
  simp
theorem rowM_len {a b c : List (BitVec 8)} {n i : Nat} (hn : n = min a.length (min b.length c.length)) (hi : i ≤ n) : (rowM a b c n i).length = n := by
  unfold rowM
  rw [List.length_append, List.length_take, List.length_map, mixL_length, List.length_replicate]
  omega
theorem rowM_end {a b c : List (BitVec 8)} {n : Nat} (hn : n = min a.length (min b.length c.length)) : rowM a b c n n = (mixL a b c).map mix1 := by
  unfold rowM
  rw [Nat.sub_self, List.replicate_zero, List.append_nil, List.take_of_length_le (by rw [List.length_map, mixL_length]; omega)]
theorem repl1 (n : Nat) (v : Value) : repl n [v] = List.replicate n v := by
  unfold repl
  induction n with
  | zero => rfl
  | succ n ih => rw [List.replicate_succ, List.flatten_cons, ih, List.replicate_succ]; rfl
theorem rowM_zero (a b c : List (BitVec 8)) (n : Nat) : (rowM a b c n 0).map bv8 = repl n [.int .u8 0] := by
  rw [repl1]
  simp [rowM, bv8]
theorem Bytes.take {m : Mem} {A : Option Addr} {l : List (BitVec 8)} (h : Bytes m A l) (k : Nat) : Bytes m A (l.take k) := fun j b hj => by
  rw [List.getElem?_take] at hj
  split at hj
  · exact h j b hj
  · cases hj
theorem mix_sums (a b c : List (BitVec 8)) (n : Nat) (hn : n = min a.length (min b.length c.length)) :
    Plain.add 0 ((mixL a b c).map mix1) = Plain.add 0 (a.take n) ^^^ Plain.add 0 (b.take n) ^^^ Plain.add 0 (c.take n) := by
  have h := Plain.add_mix (mixL a b c)
  have e1 : (mixL a b c).map (·.1) = a.take n := by
    unfold mixL
    apply List.ext_getElem?
    intro i
    rw [List.getElem?_map, List.getElem?_take]
    by_cases h : i < n
    · have := mixL_get (a := a) (b := b) (c := c) (i := i) (by omega)
      unfold mixL at this
      rw [this, if_pos h, List.getElem?_eq_getElem (by omega)]; rfl
    · rw [if_neg h, List.getElem?_eq_none (by simp; omega)]; rfl
  have e2 : (mixL a b c).map (·.2.1) = b.take n := by
    unfold mixL
    apply List.ext_getElem?
    intro i
    rw [List.getElem?_map, List.getElem?_take]
    by_cases h : i < n
    · have := mixL_get (a := a) (b := b) (c := c) (i := i) (by omega)
      unfold mixL at this
      rw [this, if_pos h, List.getElem?_eq_getElem (by omega)]; rfl
    · rw [if_neg h, List.getElem?_eq_none (by simp; omega)]; rfl
  have e3 : (mixL a b c).map (·.2.2) = c.take n := by
    unfold mixL
    apply List.ext_getElem?
    intro i
    rw [List.getElem?_map, List.getElem?_take]
    by_cases h : i < n
    · have := mixL_get (a := a) (b := b) (c := c) (i := i) (by omega)
      unfold mixL at this
      rw [this, if_pos h, List.getElem?_eq_getElem (by omega)]; rfl
    · rw [if_neg h, List.getElem?_eq_none (by simp; omega)]; rfl
  rw [e1, e2, e3] at h
  exact h
set_option maxRecDepth 100000 in
theorem lawMixes_ok : SpecOk Tryd.prog 5 lawMixes := by
  refine spec_of_exec (fn := Tryd.f5) (c := Tryd.f5.body.getD .skip) (d := 1) (lv := lvAll) (DP := DPx T0 (CPs S3) lvAll) T0_ok S3_ok (fun B => DPx_ok T0_ok (by rfl) S3_ok B) lawMixes (by rfl) (by rfl) (by rfl) (fun _ => by show 3 ≤ 61; omega) ?_
  rintro ⟨A, c, a, B, d, b, D, e, l, m⟩ ⟨ha, hb, hl, ht, ha1, hb1, hl1, hac, hbc, hlc⟩
  conv => whnf
  refine ⟨m, ht, ?_⟩
  conv => whnf
  repeat (first | (refine ⟨by first | exact ⟨rfl, rfl, rfl⟩ | rfl | exact fun _ _ h => h, ?_⟩; conv => whnf))
  intro _ _
  conv => whnf
  refine ⟨fun h => (by cases h), fun _ => ?_⟩
  conv => whnf
  obtain ⟨n, hn⟩ : ∃ n, n = min a.length (min b.length l.length) := ⟨_, rfl⟩
  have hmin := min3 a.length b.length l.length
  rw [← hn] at hmin
  have hn1 : n ≤ reachBytes := by omega
  unfold reachBytes at hn1
  refine ⟨by rw [hmin]; refine ⟨by omega, by omega, ?_, by omega⟩; show (n : Int) * 1 ≤ _; omega, ?_⟩
  conv => whnf
  refine ⟨Nat, fun i => i ≤ n, fun i => ⟨61, [⟨0, [], .sl A a.length c⟩, ⟨1, [], .sl B b.length d⟩, ⟨2, [], .sl D l.length e⟩, ⟨6, [], .b false⟩, ⟨7, [], .i .i64 n⟩, ⟨8, [], .rw 0 n⟩, ⟨22, [], .i .i64 n⟩, ⟨23, [], .i .i64 i⟩], [], [(0, .row 5 1 n ((rowM a b l n i).map bv8))], 1⟩, fun _ => m, fun i => n - i, ⟨0, rfl, Nat.zero_le _, ?_⟩, ?_⟩
  · conv => whnf
    have hmn := congrArg Int.toNat hmin
    rw [Int.toNat_natCast] at hmn
    repeat (first | exact trivial | (refine ⟨by first | exact ⟨rfl, rfl, rfl⟩ | rfl | exact hmin | exact hmn | exact congrArg Int.ofNat hmn | exact ⟨hmn, by rw [hmn]; exact (rowM_zero a b l n).symm⟩, ?_⟩; conv => whnf))
  · intro i hi
    conv => whnf
    refine ⟨fun hlt => ?_, fun hge => ?_⟩
    · have hlt : i < n := by have h2 := of_decide_eq_true hlt; omega
      obtain ⟨x, hx⟩ : ∃ x, a[i]? = some x := ⟨_, List.getElem?_eq_getElem (by omega)⟩
      obtain ⟨y, hy⟩ : ∃ x, b[i]? = some x := ⟨_, List.getElem?_eq_getElem (by omega)⟩
      obtain ⟨z, hz⟩ : ∃ x, l[i]? = some x := ⟨_, List.getElem?_eq_getElem (by omega)⟩
      conv => whnf
      refine Or.inl ?_
      conv => whnf
      refine ⟨by kernel_rfl, ?_⟩
      conv => whnf
      refine ⟨⟨Int.natCast_nonneg _, by show (i : Int) < (a.length : Int); omega, by obtain ⟨q, hq, _⟩ := ha i x hx; rw [hq]; rfl⟩, ?_⟩
      conv => whnf
      refine ⟨.i .u8 (x.toNat : Int), ⟨rfl, rfl, rd1 (o := i) (by simp) (ha i x hx)⟩, ?_⟩
      conv => whnf
      refine ⟨⟨Int.natCast_nonneg _, by show (i : Int) < (b.length : Int); omega, by obtain ⟨q, hq, _⟩ := hb i y hy; rw [hq]; rfl⟩, ?_⟩
      conv => whnf
      refine ⟨.i .u8 (y.toNat : Int), ⟨rfl, rfl, rd1 (o := i) (by simp) (hb i y hy)⟩, ?_⟩
      conv => whnf
      refine ⟨⟨Int.natCast_nonneg _, by show (i : Int) < (l.length : Int); omega, by obtain ⟨q, hq, _⟩ := hl i z hz; rw [hq]; rfl⟩, ?_⟩
      conv => whnf
      refine ⟨.i .u8 (z.toNat : Int), ⟨rfl, rfl, rd1 (o := i) (by simp) (hl i z hz)⟩, ?_⟩
      conv => whnf
      refine ⟨⟨Int.natCast_nonneg _, by show (i : Int) < (n : Int); omega, Nat.le_refl _⟩, ?_⟩
      conv => whnf
      refine ⟨⟨?_, rfl⟩, ?_⟩
      · rw [List.length_map, rowM_len hn (by omega)]
        show (i : Int).toNat * 1 + 1 ≤ n
        rw [Int.toNat_natCast]
        omega
      conv => whnf
      refine ⟨i + 1, rfl, ⟨by omega, by show n - (i + 1) < n - i; omega⟩, ?_⟩
      conv => whnf
      repeat (first | exact trivial | (refine ⟨by first | exact ⟨rfl, rfl, rfl⟩ | rfl | exact wrap64 _ (by omega) | (refine ⟨rfl, ?_⟩; show List.take ((i : Int).toNat * 1) _ ++ ([Value.int .u8 (bits .xor .u8 (bits .xor .u8 (x.toNat : Int) (y.toNat : Int)) (z.toNat : Int))] ++ List.drop ((i : Int).toNat * 1 + 1) _) = _; rw [bits_xor8, bits_xor8, Int.toNat_natCast, Nat.mul_one]; exact rowM_set hn hlt hx hy hz), ?_⟩; conv => whnf))
    · conv => whnf
      have hge : i = n := by have h2 := of_decide_eq_false hge; omega
      refine Or.inr ⟨[], [(0, true), (2, true), (3, true), (4, true), (6, true), (7, true), (8, true), (11, true), (12, true), (13, true), (1, true), (5, true), (9, true), (10, true), (14, true), (15, false), (16, false), (17, false)], by kernel_rfl, ?_⟩
      conv => whnf
      have hnn : (n : Int).toNat = n := Int.toNat_natCast n
      refine ⟨⟨Int.natCast_nonneg _, by omega⟩, ?_⟩
      conv => whnf
      refine ⟨⟨Int.natCast_nonneg _, by omega⟩, ?_⟩
      conv => whnf
      refine ⟨⟨Int.natCast_nonneg _, by omega⟩, ?_⟩
      conv => whnf
      intro A' cap m' hS
      conv => whnf
      have hS' := Sealed.bytes (l := rowM a b l n i) hS
      have hTm : Tabs m' := hS.tabs ht
      have hrl : (rowM a b l n i).length = n := rowM_len hn hi
      refine ⟨⟨A', cap, rowM a b l n i, m'⟩, ⟨hS', hTm, by rw [hrl]; omega⟩, ?_⟩
      conv => whnf
      repeat (first | (refine ⟨by first | exact ⟨rfl, rfl, rfl⟩ | exact ⟨rfl, hrl.symm, rfl⟩ | rfl | exact fun _ _ h => h, ?_⟩; conv => whnf))
      intro _ _
      conv => whnf
      have htk : ∀ {q : List (BitVec 8)}, n ≤ q.length → (n : Int).toNat = (q.take n).length := fun h => by rw [List.length_take, hnn]; omega
      refine ⟨⟨A, c, a.take n, m⟩, ⟨ha.take n, ht, by rw [List.length_take]; omega⟩, ?_⟩
      conv => whnf
      repeat (first | (refine ⟨by first | exact ⟨rfl, rfl, rfl⟩ | exact ⟨rfl, htk (by omega), rfl⟩ | rfl | exact fun _ _ h => h, ?_⟩; conv => whnf))
      intro _ _
      conv => whnf
      refine ⟨⟨B, d, b.take n, m⟩, ⟨hb.take n, ht, by rw [List.length_take]; omega⟩, ?_⟩
      conv => whnf
      repeat (first | (refine ⟨by first | exact ⟨rfl, rfl, rfl⟩ | exact ⟨rfl, htk (by omega), rfl⟩ | rfl | exact fun _ _ h => h, ?_⟩; conv => whnf))
      intro _ _
      conv => whnf
      refine ⟨⟨D, e, l.take n, m⟩, ⟨hl.take n, ht, by rw [List.length_take]; omega⟩, ?_⟩
      conv => whnf
      repeat (first | (refine ⟨by first | exact ⟨rfl, rfl, rfl⟩ | exact ⟨rfl, htk (by omega), rfl⟩ | rfl | exact fun _ _ h => h, ?_⟩; conv => whnf))
      intro _ _
      conv => whnf
      refine ⟨(), trivial, ?_⟩
      conv => whnf
      refine ⟨?_, ?_⟩
      · show (((Plain.add 0 (rowM a b l n i)).toNat : Int) == bits .xor .u32 (bits .xor .u32 ((Plain.add 0 (a.take n)).toNat : Int) ((Plain.add 0 (b.take n)).toNat : Int)) ((Plain.add 0 (l.take n)).toNat : Int)) = true
        rw [bits_xor32, bits_xor32, hge, rowM_end hn, mix_sums a b l n hn]
        exact beq_self_eq_true _
      conv => whnf
      exact fun _ _ h => h
end Go.Proofs.YtaeoibnbbpgajaaDoor.Sx

namespace Go.Proofs.YtaeoibnbbpgajaaDoor.Sx
open Go

structure TellG where
  A : Option Addr
  c : Nat
  l : List (BitVec 8)
  at' : Int
  ms : Nat → BitVec 8
  m : Mem
def lawTells : Spec where
  A := TellG
  R := fun ⟨A, _, l, at', _, m⟩ => Bytes m A l ∧ Tabs m ∧ l.length ≤ reachBytes ∧ -9223372036854775808 ≤ at' ∧ at' ≤ 9223372036854775807
  J := fun ⟨_, _, _, _, _, m⟩ => m
  args := fun ⟨A, c, l, at', ms, _⟩ => [.sl A l.length c, .i .i64 at', .g [.gi 4 .u8 fun j => ((ms j).toNat : Int)]]
  h := fun _ => []
  nx := 0
  Bb := Unit
  C := fun _ _ => True
  out := fun _ _ => lawOut
  h2 := fun _ _ => []
  nx2 := 0
theorem Bytes.rdM {m : Mem} {A : Option Addr} {l : List (BitVec 8)} (h : Bytes m A l) (hp : 0 < l.length) : rdM m A 0 (l.length * 1) (l.map bv8) := by
  obtain ⟨a, ha, _⟩ := h 0 (l[0]'hp) (List.getElem?_eq_getElem hp)
  refine ⟨a, ha, by simp, fun j u hj => ?_⟩
  rw [List.getElem?_map] at hj
  cases hl : l[j]? with
  | none => rw [hl] at hj; cases hj
  | some b =>
    rw [hl] at hj
    cases hj
    obtain ⟨a', ha', hm⟩ := h j b hl
    rw [ha] at ha'
    cases ha'
    rw [Nat.zero_add]
    exact hm
theorem wrapi (x : Int) (h0 : -9223372036854775808 ≤ x) (h1 : x ≤ 9223372036854775807) : IntKind.i64.wrap x = x := by
  by_cases h : 0 ≤ x
  · have h2 : x % 2 ^ 64 = x := by omega
    simp only [IntKind.wrap, IntKind.bits, IntKind.signed, h2]
    rw [if_neg (by simp; omega)]
  · have h2 : x % 2 ^ 64 = x + 2 ^ 64 := by omega
    simp only [IntKind.wrap, IntKind.bits, IntKind.signed, h2]
    rw [if_pos (by simp; omega)]
    omega
theorem hits_eq (at' : Int) (n i : Nat) (hn : n < 2 ^ 62) (hi : i ≤ 4) : (if decide (at' ≥ 0) = true then decide (at' < IntKind.i64.wrap ((n : Int) - (i : Int))) else false) = Plain.hits at' n i := by
  rw [wrapi _ (by omega) (by omega)]
  unfold Plain.hits
  by_cases h : 0 ≤ at'
  · simp [h]
  · simp [h]
theorem row_modify (l : List (BitVec 8)) (o : Nat) (f : BitVec 8 → BitVec 8) (x : BitVec 8) (h : l[o]? = some x) :
    (l.map bv8).take o ++ ([bv8 (f x)] ++ (l.map bv8).drop (o + 1)) = (l.modify o f).map bv8 := by
  have hol := (List.getElem?_eq_some_iff.1 h).1
  apply List.ext_getElem?
  intro j
  rw [List.getElem?_map, List.getElem?_modify]
  have hl : ((l.map bv8).take o).length = o := by rw [List.length_take, List.length_map]; omega
  rcases Nat.lt_trichotomy j o with hj | hj | hj
  · rw [List.getElem?_append_left (by omega), List.getElem?_take, if_pos hj, List.getElem?_map]
    cases l[j]? with
    | none => rfl
    | some y => show some (bv8 y) = some (bv8 (if o = j then f y else y)); rw [if_neg (by omega)]
  · subst hj
    rw [List.getElem?_append_right (by omega), hl, Nat.sub_self, h]
    show some (bv8 (f x)) = some (bv8 (if j = j then f x else x))
    rw [if_pos rfl]
  · rw [List.getElem?_append_right (by omega), hl, List.getElem?_append_right (by simp; omega), List.getElem?_drop, List.getElem?_map]
    have e : o + 1 + (j - o - [bv8 (f x)].length) = j := by simp; omega
    rw [e]
    cases l[j]? with
    | none => rfl
    | some y => show some (bv8 y) = some (bv8 (if o = j then f y else y)); rw [if_neg (by omega)]
theorem ne8 (b : BitVec 8) : ((b.toNat : Int) != 0) = (b != 0#8) := by
  by_cases h : b = 0#8
  · subst h; rfl
  · have h1 : (b != 0#8) = true := by simpa using h
    have h2 : ¬ (b.toNat : Int) = 0 := fun e => h (BitVec.eq_of_toNat_eq (by simpa using e))
    rw [h1]; simpa using h2
set_option maxRecDepth 100000 in
theorem lawTells_ok : SpecOk Tryd.prog 4 lawTells := by
  refine spec_of_exec (fn := Tryd.f4) (c := Tryd.f4.body.getD .skip) (d := 1) (lv := lvAll) (DP := DPx T0 (CPs S3) lvAll) T0_ok S3_ok (fun B => DPx_ok T0_ok (by rfl) S3_ok B) lawTells (by rfl) (by rfl) (by rfl) (fun _ => by show 3 ≤ 53; omega) ?_
  rintro ⟨A, c, l, at', ms, m⟩ ⟨hb, ht, hl, ha0, ha1⟩
  obtain ⟨n, hn⟩ : ∃ n, n = l.length := ⟨_, rfl⟩
  unfold reachBytes at hl
  conv => whnf
  refine ⟨m, ht, ?_⟩
  conv => whnf
  repeat (first | (refine ⟨by first | exact ⟨rfl, rfl, rfl⟩ | rfl | exact fun _ _ h => h, ?_⟩; conv => whnf))
  intro _ _
  conv => whnf
  refine ⟨fun h => (by cases h), fun _ => ?_⟩
  conv => whnf
  refine ⟨l.map bv8, ⟨by simp, fun u hu => by simp only [List.mem_map] at hu; obtain ⟨b, _, rfl⟩ := hu; rfl, fun h => hb.rdM h⟩, ?_⟩
  conv => whnf
  refine ⟨⟨Nat.le_refl _, by show (0 + l.length) * 1 ≤ _; omega, by omega⟩, ?_⟩
  conv => whnf
  refine ⟨Nat, fun i => i ≤ 4, fun i => ⟨53, [⟨0, [], .sl A n c⟩, ⟨1, [], .i .i64 at'⟩, ⟨6, [], .b false⟩, ⟨7, [], .rw 0 n⟩, ⟨8, [], .b (Plain.un n at' ms i)⟩, ⟨16, [], .g [.gi 4 .u8 fun j => ((ms j).toNat : Int)]⟩, ⟨17, [], .i .i64 i⟩], [], [(0, .row 5 1 n ((Plain.ap l at' ms i).map bv8))], 1⟩, fun _ => m, fun i => 4 - i, ⟨0, rfl, Nat.zero_le _, ?_⟩, ?_⟩
  · conv => whnf
    repeat (first | exact trivial | (refine ⟨by first | exact ⟨rfl, rfl, rfl⟩ | exact ⟨rfl, hn.symm, rfl⟩ | rfl | exact ⟨rfl, fun _ _ => rfl⟩ | (show 0 + l.length = n; omega) | (refine ⟨by show 0 + l.length = n; omega, rfl⟩), ?_⟩; conv => whnf))
  · intro i hi
    conv => whnf
    refine ⟨fun hlt => ?_, fun hge => ?_⟩
    · have hlt : i < 4 := by have h2 := of_decide_eq_true hlt; omega
      conv => whnf
      refine ⟨⟨Int.natCast_nonneg _, by show (i : Int) < 4; omega⟩, ?_⟩
      conv => whnf
      have hhe := hits_eq at' n i (by omega) hi
      obtain ⟨x, hx⟩ : ∃ x, x = ms i := ⟨_, rfl⟩
      refine ⟨fun hh => ?_, fun hh => ?_⟩
      · rw [hhe] at hh
        have h2 := hh
        simp only [Plain.hits, Bool.and_eq_true, decide_eq_true_eq] at h2
        have hw : IntKind.i64.wrap (at' + (i : Int)) = at' + (i : Int) := wrapi _ (by omega) (by omega)
        have ho : (IntKind.i64.wrap (at' + (i : Int))).toNat * 1 = at'.toNat + i := by rw [hw]; omega
        have hcl := Plain.ap_len l at' ms i
        obtain ⟨y, hy⟩ : ∃ y, (Plain.ap l at' ms i)[at'.toNat + i]? = some y := ⟨_, List.getElem?_eq_getElem (by omega)⟩
        have hun : (if Plain.un n at' ms i = true then true else (((ms (i : Int).toNat).toNat : Int) != 0)) = Plain.un n at' ms (i + 1) := by
          have e : Plain.un n at' ms (i + 1) = (Plain.un n at' ms i || (ms i != 0#8)) := by
            show (if Plain.hits at' n i = true then _ else _) = _
            rw [hh, if_pos rfl]
          rw [e, Int.toNat_natCast, ne8]
          cases Plain.un n at' ms i <;> rfl
        have hrow : List.take ((IntKind.i64.wrap (at' + (i : Int))).toNat * 1) ((Plain.ap l at' ms i).map bv8) ++ ([Value.int .u8 (bits .xor .u8 (y.toNat : Int) ((ms (i : Int).toNat).toNat : Int))] ++ List.drop ((IntKind.i64.wrap (at' + (i : Int))).toNat * 1 + 1) ((Plain.ap l at' ms i).map bv8)) = (Plain.ap l at' ms (i + 1)).map bv8 := by
          have hu : Plain.ap l at' ms (i + 1) = (Plain.ap l at' ms i).modify (at'.toNat + i) (fun q => q ^^^ ms i) := by
            show (if Plain.hits at' l.length i = true then _ else _) = _
            rw [← hn, hh, if_pos rfl]
          rw [bits_xor8, ho, Int.toNat_natCast, hu]
          exact row_modify _ _ (fun q => q ^^^ ms i) y hy
        conv => whnf
        refine ⟨by rw [hw]; refine ⟨by omega, by show at' + (i : Int) < (n : Int); omega, Nat.le_refl _⟩, ?_⟩
        conv => whnf
        refine ⟨.i .u8 (y.toNat : Int), ⟨rfl, rfl, rfl, ?_⟩, ?_⟩
        · show (IntKind.i64.wrap (at' + (i : Int))).toNat * 1 + 1 ≤ _ ∧ [Value.int .u8 (y.toNat : Int)] = (List.drop ((IntKind.i64.wrap (at' + (i : Int))).toNat * 1) _).take 1
          rw [ho, List.length_map, hcl]
          refine ⟨by omega, ?_⟩
          rw [← List.map_drop, ← List.map_take]
          have : ((Plain.ap l at' ms i).drop (at'.toNat + i)).take 1 = [y] := by
            rw [List.take_one, List.head?_drop, hy]; rfl
          rw [this]; rfl
        conv => whnf
        refine ⟨by rw [hw]; refine ⟨by omega, by show at' + (i : Int) < (n : Int); omega, Nat.le_refl _⟩, ?_⟩
        conv => whnf
        refine ⟨⟨by show (IntKind.i64.wrap (at' + (i : Int))).toNat * 1 + 1 ≤ _; rw [ho, List.length_map, hcl]; omega, rfl⟩, ?_⟩
        conv => whnf
        refine ⟨i + 1, rfl, ⟨by omega, by show 4 - (i + 1) < 4 - i; omega⟩, ?_⟩
        conv => whnf
        repeat (first | exact trivial | (refine ⟨by first | exact ⟨rfl, rfl, rfl⟩ | rfl | exact wrap64 _ (by omega) | exact ⟨rfl, fun _ _ => rfl⟩ | exact hun | exact ⟨rfl, hrow⟩, ?_⟩; conv => whnf))
      · rw [hhe] at hh
        have hun : Plain.un n at' ms i = Plain.un n at' ms (i + 1) := by
          show _ = (if Plain.hits at' n i = true then _ else _)
          rw [hh, if_neg (by decide)]
        conv => whnf
        refine ⟨i + 1, rfl, ⟨by omega, by show 4 - (i + 1) < 4 - i; omega⟩, ?_⟩
        conv => whnf
        repeat (first | exact trivial | (refine ⟨by first | exact ⟨rfl, rfl, rfl⟩ | rfl | exact wrap64 _ (by omega) | exact ⟨rfl, fun _ _ => rfl⟩ | exact hun | (refine ⟨rfl, ?_⟩; have hu : Plain.ap l at' ms (i + 1) = Plain.ap l at' ms i := (by show (if Plain.hits at' l.length i = true then _ else _) = _; rw [← hn, hh, if_neg (by decide)]); rw [hu]), ?_⟩; conv => whnf))
    · have hge : i = 4 := by have h2 := of_decide_eq_false hge; omega
      subst hge
      conv => whnf
      have hb' : Bytes m A l := hb
      subst hn
      refine ⟨⟨A, c, l, m⟩, ⟨hb, ht, by omega⟩, ?_⟩
      conv => whnf
      repeat (first | (refine ⟨by first | exact ⟨rfl, rfl, rfl⟩ | rfl | exact fun _ _ h => h, ?_⟩; conv => whnf))
      intro _ _
      conv => whnf
      intro A' cap m' hS
      conv => whnf
      have hS' := Sealed.bytes (l := Plain.ap l at' ms 4) hS
      have hTm : Tabs m' := hS.tabs ht
      have hcl := Plain.ap_len l at' ms 4
      refine ⟨⟨A', cap, Plain.ap l at' ms 4, m'⟩, ⟨hS', hTm, by rw [hcl]; omega⟩, ?_⟩
      conv => whnf
      repeat (first | (refine ⟨by first | exact ⟨rfl, rfl, rfl⟩ | exact ⟨rfl, hcl.symm, rfl⟩ | rfl | exact fun _ _ h => h, ?_⟩; conv => whnf))
      intro _ _
      conv => whnf
      refine ⟨(), trivial, ?_⟩
      conv => whnf
      refine ⟨?_, ?_⟩
      · show ((((Plain.add 0 l).toNat : Int) != ((Plain.add 0 (Plain.ap l at' ms 4)).toNat : Int)) == Plain.un l.length at' ms 4) = true
        have h := Plain.turned l at' ms
        have h2 : (((Plain.add 0 l).toNat : Int) != ((Plain.add 0 (Plain.ap l at' ms 4)).toNat : Int)) = true ↔ Plain.add 0 l ≠ Plain.add 0 (Plain.ap l at' ms 4) := by
          rw [bne_iff_ne]
          constructor
          · intro h e; exact h (by rw [e])
          · intro h e; exact h (BitVec.eq_of_toNat_eq (by exact_mod_cast e))
        rw [← h2] at h
        generalize (((Plain.add 0 l).toNat : Int) != ((Plain.add 0 (Plain.ap l at' ms 4)).toNat : Int)) = p at h
        generalize Plain.un l.length at' ms 4 = q at h
        cases p <;> cases q <;> simp_all
      conv => whnf
      exact fun _ _ h => h
end Go.Proofs.YtaeoibnbbpgajaaDoor.Sx

namespace Go.Proofs.YtaeoibnbbpgajaaDoor.Sx
open Go

structure KeepsG where
  A : Option Addr
  c : Nat
  l : List (BitVec 8)
  B : Option Addr
  d : Nat
  k : List (BitVec 8)
  m : Mem
def lawKeeps : Spec where
  A := KeepsG
  R := fun ⟨A, _, l, B, _, k, m⟩ => Bytes m A l ∧ Bytes m B k ∧ Tabs m ∧ l.length ≤ reachBytes ∧ k.length ≤ reachBytes
  J := fun ⟨_, _, _, _, _, _, m⟩ => m
  args := fun ⟨A, c, l, B, d, k, _⟩ => [.sl A l.length c, .sl B k.length d]
  h := fun _ => []
  nx := 0
  Bb := Unit
  C := fun _ _ => True
  out := fun _ _ => lawOut
  h2 := fun _ _ => []
  nx2 := 0
def lvK : List Nat := [0, 1, 4, 5, 6, 7, 8, 9, 11, 75, 77, 78, 79]
theorem S3_all : ∀ f s, findS S3 f = some s → SpecOk Tryd.prog f s := fun f s h => by
  simp only [S3, S2, findS] at h
  repeat' split at h
  all_goals first | (rename_i hb; obtain rfl := beq_eq hb; cases h; first | exact wakes_ok | exact add_ok | exact refAdd_ok | exact sum_ok | exact refSum_ok | exact parts_ok) | cases h
theorem bv8_one {l : List (BitVec 8)} : ∀ u ∈ l.map bv8, u.oneCell' = true := fun u hu => by
  obtain ⟨b, _, rfl⟩ := List.mem_map.1 hu
  rfl
theorem rowEnd (l : List (BitVec 8)) (x : BitVec 8) : List.take ((0 + l.length) * 1) (List.take (0 * 1) [] ++ l.map bv8) ++ List.take (1 * 1) [bv8 x] = (l ++ [x]).map bv8 := by
  simp [List.take_of_length_le]
theorem Sealed.tail {m m' : Mem} {A : Option Addr} {cap : Nat} {l : List (BitVec 8)} {x : BitVec 8} {xs : List Value} (h : Sealed m m' A cap (0 + l.length + 1) 1 xs) (hx : xs = List.take ((0 + l.length) * 1) (List.take (0 * 1) [] ++ l.map bv8) ++ List.take (1 * 1) [bv8 x]) : Bytes m' A (l ++ [x]) := by
  refine Sealed.bytes (m := m) (cap := cap) (n := 0 + l.length + 1) ?_
  rw [hx, rowEnd] at h
  exact h
theorem Bytes.front {m : Mem} {A : Option Addr} {l k : List (BitVec 8)} (h : Bytes m A (l ++ k)) : Bytes m A l := by
  have := h.take l.length
  rwa [List.take_left' rfl] at this
theorem Bytes.more {m m' : Mem} (h : ∀ b o, m b = some o → m' b = some o) {A : Option Addr} {l : List (BitVec 8)} (hB : Bytes m A l) : Bytes m' A l := by
  intro j b hj
  obtain ⟨a, ha, hm⟩ := hB j b hj
  refine ⟨a, ha, ?_⟩
  unfold mcell at hm ⊢
  cases hb : m (a.add j).block with
  | none => rw [hb] at hm; cases hm
  | some o => rw [hb] at hm; rw [h _ o hb]; exact hm
theorem Tabs.more {m m' : Mem} (h : ∀ b o, m b = some o → m' b = some o) (ht : Tabs m) : Tabs m' := by
  intro j hj
  have := ht j hj
  unfold mcell at this ⊢
  cases hm : m 0 with
  | none => rw [hm] at this; cases this
  | some o => rw [hm] at this; rw [h 0 o hm]; exact this
theorem Sealed.two {m m' : Mem} {D A B : Option Addr} {cap c d : Nat} {l k : List (BitVec 8)} (h : Sealed m m' D cap 2 1 [.slice A l.length c, .slice B k.length d]) (hl : Bytes m A l) (hk : Bytes m B k) (hll : l.length < 2 ^ 62) (hkl : k.length < 2 ^ 62) : Lists m' D [l, k] := by
  obtain ⟨a, ha, _, hc⟩ := h.rd (by decide)
  intro j x hj
  match j with
  | 0 =>
    cases hj
    exact ⟨a, A, c, ha, by have := hc 0 _ rfl; rwa [Nat.zero_add] at this, hl.more h.ext, hll⟩
  | 1 =>
    cases hj
    exact ⟨a, B, d, ha, by have := hc 1 _ rfl; rwa [Nat.zero_add] at this, hk.more h.ext, hkl⟩
  | j + 2 => cases hj
/-- Bytes as a text. -/
def sOf (l : List (BitVec 8)) : ByteArray := ⟨(l.map UInt8.ofBitVec).toArray⟩
theorem sOf_size (l : List (BitVec 8)) : (sOf l).size = l.length := by
  show (l.map UInt8.ofBitVec).toArray.size = _
  rw [List.size_toArray, List.length_map]
theorem sOf_bytes (l : List (BitVec 8)) : bytesL (sOf l) = l.map bv8 := by
  show (l.map UInt8.ofBitVec).toArray.toList.map _ = _
  rw [List.toList_toArray, List.map_map]
  rfl
theorem text_of {m : Mem} {A : Option Addr} {l : List (BitVec 8)} (h : Bytes m A l) {n : Nat} (hn : n = l.length) : (sOf l).size = n ∧ (0 < n → rdM m A 0 n (bytesL (sOf l))) := by
  subst hn
  refine ⟨sOf_size l, fun hp => ?_⟩
  have := h.rdM hp
  rw [Nat.mul_one] at this
  rw [sOf_bytes]
  exact this
theorem at_base {A : Option Addr} {b o i : Nat} (h : A = some ⟨b, 0, none⟩) (ho : o = i) : A.map (·.add o) = some ⟨b, i, none⟩ := by
  subst h ho
  simp only [Option.map_some, add_base]
set_option maxRecDepth 100000 in
theorem lawKeeps_ok : SpecOk Tryd.prog 9 lawKeeps := by
  refine spec_of_execM (fn := Tryd.f9) (c := Tryd.f9.body.getD .skip) (d := 1) (lv := lvK) (CP := CPm S3) (DP := fun m0 => DPx T0 (CPm S3 m0) lvK) T0_ok (fun B => CPm_ok S3_all B) (fun B => DPx_okB T0_ok (by rfl) (CPm_ok S3_all B)) lawKeeps (by rfl) (by rfl) (by rfl) (fun _ => by show 2 ≤ 96; omega) ?_
  rintro ⟨A, c, l, B, d, k, m⟩ ⟨hb, hk, ht, hl, hkl⟩
  unfold reachBytes at hl hkl
  conv => whnf
  refine ⟨m, ht, ?_⟩
  conv => whnf
  repeat (first | exact trivial | (refine ⟨by first | exact ⟨rfl, rfl, rfl⟩ | rfl | exact ⟨rfl, rfl⟩ | exact ⟨rfl, fun _ _ => rfl⟩ | exact fun _ _ h => h | (intro _ _ h; cases h; done), ?_⟩; conv => whnf))
  intro _ _
  conv => whnf
  refine ⟨fun h => (by cases h), fun _ => ?_⟩
  conv => whnf
  refine ⟨l.map bv8, ⟨by rw [List.length_map]; exact (Nat.mul_one _).symm, bv8_one, hb.rdM⟩, ?_⟩
  conv => whnf
  refine ⟨⟨Nat.le_refl _, by show (0 + l.length) * 1 ≤ _; omega, by omega⟩, ?_⟩
  conv => whnf
  refine ⟨by decide, ?_⟩
  conv => whnf
  refine ⟨⟨Nat.le_refl _, by show (0 + l.length + 1) * 1 ≤ _; omega, by omega⟩, ?_⟩
  conv => whnf
  conv => whnf
  refine ⟨k.map bv8, ⟨by rw [List.length_map]; exact (Nat.mul_one _).symm, bv8_one, hk.rdM⟩, ?_⟩
  conv => whnf
  refine ⟨⟨Nat.le_refl _, by show (0 + k.length) * 1 ≤ _; omega, by omega⟩, ?_⟩
  conv => whnf
  refine ⟨by decide, ?_⟩
  conv => whnf
  refine ⟨⟨Nat.le_refl _, by show (0 + k.length + 1) * 1 ≤ _; omega, by omega⟩, ?_⟩
  conv => whnf
  conv => whnf
  refine Or.inl ?_
  conv => whnf
  refine ⟨by kernel_rfl, ?_⟩
  conv => whnf
  refine ⟨Nat.le_refl _, ?_⟩
  conv => whnf
  refine ⟨⟨Int.natCast_nonneg _, by omega⟩, ?_⟩
  conv => whnf
  refine ⟨Nat.le_refl _, ?_⟩
  conv => whnf
  refine ⟨⟨Int.natCast_nonneg _, by omega⟩, ?_⟩
  conv => whnf
  intro A1 c1 m1 hS1
  conv => whnf
  intro A2 c2 m2 hS2
  conv => whnf
  have hB1 := Sealed.tail (x := 7) hS1 rfl
  have hB2 := Sealed.tail (x := 8) hS2 rfl
  have hT2 := hS2.tabs (hS1.tabs ht)
  have hx2 : ∀ b o, m b = some o → m2 b = some o := fun b o h => hS2.ext b o (hS1.ext b o h)
  have hn1 : (l.length : Int).toNat = l.length := Int.toNat_natCast _
  have hn2 : (k.length : Int).toNat = k.length := Int.toNat_natCast _
  have hb1 := hB1.more hS2.ext
  have hc1 := hS1.le
  have hc2 := hS2.le
  intro A3 c3 m3 hS3
  have hL3 := Sealed.two hS3 hb1.front hB2.front (by omega) (by omega)
  conv => whnf
  refine ⟨⟨A3, c3, [l, k], m3⟩, ⟨hL3, hS3.tabs hT2, by show 2 < 2 ^ 62; decide⟩, ?_⟩
  conv => whnf
  repeat (first | exact trivial | (refine ⟨by first | exact ⟨rfl, rfl, rfl⟩ | rfl | exact ⟨rfl, rfl⟩ | exact ⟨rfl, fun _ _ => rfl⟩ | exact fun _ _ h => h | (intro _ _ h; cases h; done), ?_⟩; conv => whnf))
  intro _ _
  conv => whnf
  refine Or.inr ⟨[], [(0, false), (1, false), (2, false), (3, false), (5, false), (6, false), (7, true), (8, true), (4, true), (9, false), (10, false)], by kernel_rfl, ?_⟩
  conv => whnf
  refine ⟨⟨Int.natCast_nonneg _, by omega⟩, ?_⟩
  conv => whnf
  refine ⟨⟨Int.natCast_nonneg _, by omega⟩, ?_⟩
  conv => whnf
  refine ⟨⟨A1, c1, l, m2⟩, ⟨hb1.front, hT2, by omega⟩, ?_⟩
  conv => whnf
  repeat (first | exact trivial | (refine ⟨by first | exact ⟨rfl, rfl, rfl⟩ | rfl | exact ⟨rfl, rfl⟩ | exact ⟨rfl, fun _ _ => rfl⟩ | exact fun _ _ h => h | (intro _ _ h; cases h; done) | exact ⟨rfl, hn1, rfl⟩, ?_⟩; conv => whnf))
  intro _ _
  conv => whnf
  refine ⟨⟨Plain.add 0 l, A2, c2, k, m2⟩, ⟨hB2.front, hT2, by omega⟩, ?_⟩
  conv => whnf
  repeat (first | exact trivial | (refine ⟨by first | exact ⟨rfl, rfl, rfl⟩ | rfl | exact ⟨rfl, rfl⟩ | exact ⟨rfl, fun _ _ => rfl⟩ | exact fun _ _ h => h | (intro _ _ h; cases h; done) | exact ⟨rfl, hn2, rfl⟩, ?_⟩; conv => whnf))
  intro _ _
  conv => whnf
  refine Or.inl ?_
  conv => whnf
  refine ⟨by kernel_rfl, ?_⟩
  conv => whnf
  have hbm := hb.more hx2
  have hkm := hk.more hx2
  refine ⟨⟨Int.natCast_nonneg _, by omega⟩, ?_⟩
  conv => whnf
  refine ⟨sOf l, text_of hb1.front hn1, ?_⟩
  conv => whnf
  refine ⟨sOf l, text_of hbm rfl, ?_⟩
  conv => whnf
  refine ⟨fun _ => ⟨Int.natCast_nonneg _, by omega⟩, ?_⟩
  conv => whnf
  refine ⟨sOf k, fun _ => text_of hB2.front hn2, ?_⟩
  conv => whnf
  refine ⟨sOf k, fun _ => text_of hkm rfl, ?_⟩
  conv => whnf
  have hi1 : A1.isSome = true := by obtain ⟨a, ha, _⟩ := hb1 l.length 7 (by simp); rw [ha]; rfl
  have hi2 : A2.isSome = true := by obtain ⟨a, ha, _⟩ := hB2 k.length 8 (by simp); rw [ha]; rfl
  refine ⟨fun _ => ⟨Int.natCast_nonneg _, by omega, hi1⟩, ?_⟩
  conv => whnf
  refine ⟨.i .u8 7, ⟨rfl, rfl, fun _ => rd1 (o := l.length) (by show (l.length : Int).toNat * 1 = _; omega) (hb1 l.length 7 (by simp))⟩, ?_⟩
  conv => whnf
  refine ⟨fun _ => ⟨Int.natCast_nonneg _, by omega, hi2⟩, ?_⟩
  conv => whnf
  refine ⟨.i .u8 8, ⟨rfl, rfl, fun _ => rd1 (o := k.length) (by show (k.length : Int).toNat * 1 = _; omega) (hB2 k.length 8 (by simp))⟩, ?_⟩
  conv => whnf
  refine ⟨fun h => absurd h (by simp), fun _ => ?_⟩
  conv => whnf
  obtain ⟨s, hs⟩ : ∃ s, s = 0 + l.length + 1 := ⟨_, rfl⟩
  have hobj := hS1.obj
  rcases hobj with ⟨h0, _⟩ | ⟨b1, cur1, e1, hA1, hmb, hm1, hcs, _⟩
  · exact absurd h0 (by omega)
  have hcs : cur1.size = c1 * 1 := hcs
  have hcs : s ≤ cur1.size := by omega
  have hb0 : m2 b1 = some (.cells cur1 e1 (0, 0)) := hS2.ext b1 _ (by rw [hm1]; exact if_pos rfl)
  refine ⟨Nat × Mem, fun x => x.1 ≤ s ∧ (∀ b o, m b = some o → x.2 b = some o) ∧ ∃ cur e, x.2 b1 = some (.cells cur e (0, 0)) ∧ s ≤ cur.size, fun x => ⟨96, [⟨0, [], .sl A l.length c⟩, ⟨1, [], .sl B k.length d⟩, ⟨5, [], .sl A1 s c1⟩, ⟨7, [], .i .u32 ((Plain.parts 0 [l, k]).toNat : Int)⟩, ⟨8, [], .i .u32 ((Plain.add (Plain.add 0 l) k).toNat : Int)⟩, ⟨77, [], .i .i64 s⟩, ⟨78, [], .i .i64 x.1⟩], [], [], 0⟩, fun x => x.2, fun x => s - x.1, ⟨(0, m2), rfl, ⟨Nat.zero_le _, hx2, cur1, e1, hb0, hcs⟩, ?_⟩, ?_⟩
  conv => whnf
  · conv => whnf
    repeat (first | exact trivial | (refine ⟨by first | exact ⟨rfl, rfl, rfl⟩ | rfl | exact ⟨rfl, rfl⟩ | exact ⟨rfl, fun _ _ => rfl⟩ | exact fun _ _ h => h | (intro _ _ h; cases h; done) | exact ⟨rfl, hs.symm, rfl⟩ | exact congrArg Int.ofNat hs.symm, ?_⟩; conv => whnf))
  · rintro ⟨i, mm⟩ ⟨hi, hxm, cur, e, hcur, hsz⟩
    refine ⟨fun hlt => ?_, fun hge => ?_⟩
    conv => whnf
    · have hlt : i < s := by have h2 : (i : Int) < (s : Int) := of_decide_eq_true hlt; omega
      refine ⟨⟨Int.natCast_nonneg _, by show (i : Int) < (s : Int); omega, hi1⟩, ?_⟩
      conv => whnf
      refine ⟨b1, i, cur, e, ⟨at_base hA1 (Nat.mul_one i), hmb, hcur, by show i + 1 ≤ _; omega, rfl⟩, ?_⟩
      conv => whnf
      conv => whnf
      refine ⟨(i + 1, _), rfl, ⟨⟨hlt, fun b o h => ?_, _, e, if_pos rfl, ?_⟩, ?_⟩, ?_⟩
      · have : b ≠ b1 := fun h2 => by subst h2; rw [show m b = none from hmb] at h; cases h
        exact (if_neg this).trans (hxm b o h)
      · simp only [List.size_toArray, List.length_append, List.length_take, List.length_drop, Array.length_toList]
        show s ≤ min i cur.size + (1 + (cur.size - (i + 1)))
        omega
      · show s - (i + 1) < s - i
        omega
      conv => whnf
      repeat (first | exact trivial | (refine ⟨by first | exact ⟨rfl, rfl, rfl⟩ | rfl | exact ⟨rfl, rfl⟩ | exact ⟨rfl, fun _ _ => rfl⟩ | exact fun _ _ h => h | (intro _ _ h; cases h; done) | exact wrapi _ (by omega) (by omega), ?_⟩; conv => whnf))
    · have hbe := hb.more hxm
      have hke := hk.more hxm
      have hte := ht.more hxm
      conv => whnf
      refine ⟨fun _ => ?_, fun h => absurd h (by simp [Plain.parts])⟩
      intro A9 c9 m9 hS9
      have hL9 := Sealed.two hS9 hbe hke (by omega) (by omega)
      refine ⟨⟨A9, c9, [l, k], m9⟩, ⟨hL9, hS9.tabs hte, by show 2 < 2 ^ 62; decide⟩, ?_⟩
      conv => whnf
      repeat (first | exact trivial | (refine ⟨by first | exact ⟨rfl, rfl, rfl⟩ | rfl | exact ⟨rfl, rfl⟩ | exact ⟨rfl, fun _ _ => rfl⟩ | exact fun _ _ h => h | (intro _ _ h; cases h; done), ?_⟩; conv => whnf))
      intro _ _
      refine ⟨(), trivial, ?_⟩
      conv => whnf
      refine ⟨by simp [Plain.parts], ?_⟩
      conv => whnf
      exact hxm
end Go.Proofs.YtaeoibnbbpgajaaDoor.Sx

namespace Go.Proofs.YtaeoibnbbpgajaaDoor.Sx
open Go

/-- What a row of numbers reads as. -/
def Ints (m : Mem) (A : Option Addr) (l : List Int) : Prop := ∀ j z, l[j]? = some z → ∃ a, A = some a ∧ mcell m (a.add j) = some (.int .i64 z)
structure PieceG where
  A : Option Addr
  c : Nat
  l : List (BitVec 8)
  B : Option Addr
  d : Nat
  zs : List Int
  m : Mem
def lawPieces : Spec where
  A := PieceG
  R := fun ⟨A, c, l, B, _, zs, m⟩ => Bytes m A l ∧ Ints m B zs ∧ Tabs m ∧ l.length ≤ 1048576 ∧ zs.length ≤ 1048576 ∧ l.length ≤ c
  J := fun ⟨_, _, _, _, _, _, m⟩ => m
  args := fun ⟨A, c, l, B, d, zs, _⟩ => [.sl A l.length c, .sl B zs.length d]
  h := fun _ => []
  nx := 0
  Bb := Unit
  C := fun _ _ => True
  out := fun _ _ => lawOut
  h2 := fun _ _ => []
  nx2 := 0
/-- A piece: where it lies, and what it holds. -/
abbrev Piece := Option Addr × Nat × List (BitVec 8)
def pv (p : Piece) : Value := .slice p.1 p.2.2.length p.2.1
/-- A part of a row. -/
def cutA (A : Option Addr) (c p : Nat) : Option Addr := if c = p then A else A.map (·.add (p * 1))
theorem Bytes.cut {m : Mem} {A : Option Addr} {l : List (BitVec 8)} (h : Bytes m A l) {c : Nat} (hc : l.length ≤ c) (p k : Nat) : Bytes m (cutA A c p) ((l.drop p).take k) := by
  intro j b hj
  rw [List.getElem?_take] at hj
  split at hj
  · rw [List.getElem?_drop] at hj
    obtain ⟨a, ha, hm⟩ := h _ _ hj
    have hlt := (List.getElem?_eq_some_iff.1 hj).1
    have hne : ¬ c = p := by omega
    refine ⟨a.add p, by rw [cutA, if_neg hne, ha, Nat.mul_one]; rfl, ?_⟩
    rw [add_add]
    exact hm
  · cases hj
/-- What is known on the way: so far the pieces are what was passed. -/
structure OnWay (m : Mem) (l : List (BitVec 8)) (ps : List Piece) (p : Nat) : Prop where
  le : p ≤ l.length
  fl : (ps.map (·.2.2)).flatten = l.take p
  by' : ∀ q ∈ ps, Bytes m q.1 q.2.2
  sm : ∀ q ∈ ps, q.2.2.length < 2 ^ 62
theorem OnWay.snoc {m : Mem} {l : List (BitVec 8)} {ps : List Piece} {p : Nat} (h : OnWay m l ps p) {A : Option Addr} {c : Nat} (hB : Bytes m A l) (hc : l.length ≤ c) (hl : l.length < 2 ^ 62) {q : Nat} (hpq : p ≤ q) (hq : q ≤ l.length) {c' : Nat} :
    OnWay m l (ps ++ [(cutA A c p, c', (l.drop p).take (q - p))]) q := by
  refine ⟨hq, ?_, ?_, ?_⟩
  · rw [List.map_append, List.flatten_append, h.fl]
    simp only [List.map_cons, List.map_nil, List.flatten_cons, List.flatten_nil, List.append_nil]
    have : q = p + (q - p) := by omega
    rw [this, List.take_add]
    congr 2
    omega
  · intro x hx
    rcases List.mem_append.1 hx with hx | hx
    · exact h.by' x hx
    · simp only [List.mem_singleton] at hx
      subst hx
      exact hB.cut hc p (q - p)
  · intro x hx
    rcases List.mem_append.1 hx with hx | hx
    · exact h.sm x hx
    · simp only [List.mem_singleton] at hx
      subst hx
      simp only [List.length_take, List.length_drop]
      omega
theorem OnWay.sum {m : Mem} {l : List (BitVec 8)} {ps : List Piece} {p : Nat} (h : OnWay m l ps p) : Plain.parts 0 (ps.map (·.2.2)) = Plain.add 0 (l.take p) := by
  rw [Plain.parts_eq, h.fl]
theorem Bytes.ext {m m' : Mem} (h : ∀ b o, m b = some o → m' b = some o) {A : Option Addr} {l : List (BitVec 8)} (hB : Bytes m A l) : Bytes m' A l := by
  intro j b hj
  obtain ⟨a, ha, hm⟩ := hB j b hj
  refine ⟨a, ha, ?_⟩
  unfold mcell at hm ⊢
  cases hb : m (a.add j).block with
  | none => rw [hb] at hm; cases hm
  | some o => rw [hb] at hm; rw [h _ o hb]; exact hm
theorem Sealed.lists {m m' : Mem} {A : Option Addr} {cap : Nat} {l : List (BitVec 8)} {qs : List Piece} {p : Nat} (h : Sealed m m' A cap qs.length 1 (qs.map pv)) (hw : OnWay m l qs p) : Lists m' A (qs.map (·.2.2)) := by
  intro j x hj
  rw [List.getElem?_map] at hj
  cases hq : qs[j]? with
  | none => rw [hq] at hj; cases hj
  | some q =>
    rw [hq] at hj
    cases hj
    have hmem : q ∈ qs := List.mem_of_getElem? hq
    have hjl := (List.getElem?_eq_some_iff.1 hq).1
    obtain ⟨a, ha, _, hc⟩ := h.rd (by omega)
    refine ⟨a, q.1, q.2.1, ha, ?_, (hw.by' q hmem).ext h.ext, hw.sm q hmem⟩
    have := hc j (pv q) (by rw [List.getElem?_map, hq]; rfl)
    rwa [Nat.zero_add] at this
set_option maxRecDepth 100000 in
theorem lawPieces_ok : SpecOk Tryd.prog 8 lawPieces := by
  refine spec_of_exec (fn := Tryd.f8) (c := Tryd.f8.body.getD .skip) (d := 1) (lv := lvAll) (DP := DPx T0 (CPs S3) lvAll) T0_ok S3_ok (fun B => DPx_ok T0_ok (by rfl) S3_ok B) lawPieces (by rfl) (by rfl) (by rfl) (fun _ => by show 2 ≤ 63; omega) ?_
  rintro ⟨A, c, l, B, d, zs, m⟩ ⟨hb, hz, ht, hl, hzl, hlc⟩
  obtain ⟨n, hn⟩ : ∃ n, n = l.length := ⟨_, rfl⟩
  obtain ⟨k, hk⟩ : ∃ k, k = zs.length := ⟨_, rfl⟩
  conv => whnf
  refine ⟨m, ht, ?_⟩
  conv => whnf
  repeat (first | (refine ⟨by first | exact ⟨rfl, rfl, rfl⟩ | rfl | exact fun _ _ h => h, ?_⟩; conv => whnf))
  intro _ _
  conv => whnf
  refine ⟨fun h => (by cases h), fun _ => ?_⟩
  conv => whnf
  refine ⟨Nat × List Piece × Nat, fun x => x.1 ≤ k ∧ x.2.1.length ≤ x.1 ∧ OnWay m l x.2.1 x.2.2, fun x => ⟨63, [⟨0, [], .sl A n c⟩, ⟨1, [], .sl B k d⟩, ⟨4, [], .b false⟩, ⟨5, [], .rw 0 x.2.1.length⟩, ⟨6, [], .i .i64 x.2.2⟩, ⟨7, [], .i .u32 ((Plain.add 0 (l.take x.2.2)).toNat : Int)⟩, ⟨12, [], .sl B k d⟩, ⟨13, [], .i .i64 k⟩, ⟨14, [], .i .i64 x.1⟩], [], [(0, .row 23 1 x.2.1.length (x.2.1.map pv))], 1⟩, fun _ => m, fun x => k - x.1, ⟨(0, [], 0), rfl, ⟨Nat.zero_le _, Nat.le_refl _, Nat.zero_le _, by simp, by simp, by simp⟩, ?_⟩, ?_⟩
  · have h00 : (0 : Int) = ((Plain.add 0 (List.take 0 l)).toNat : Int) := by rw [List.take_zero, Plain.add_nil]; rfl
    conv => whnf
    repeat (first | exact trivial | (refine ⟨by first | exact ⟨rfl, rfl, rfl⟩ | exact h00 | exact ⟨rfl, hn.symm, rfl⟩ | exact ⟨rfl, hk.symm, rfl⟩ | rfl | exact congrArg Int.ofNat hk.symm | exact ⟨rfl, rfl⟩, ?_⟩; conv => whnf))
  · rintro ⟨i, ps, p⟩ ⟨hi, hpi, hw⟩
    have hi : i ≤ k := hi
    have hpi : ps.length ≤ i := hpi
    have hw : OnWay m l ps p := hw
    have hple := hw.le
    conv => whnf
    refine ⟨fun hlt => ?_, fun hge => ?_⟩
    · have hlt : i < k := by have h2 := of_decide_eq_true hlt; simp only at h2; omega
      obtain ⟨z, hzi⟩ : ∃ z, zs[i]? = some z := ⟨_, List.getElem?_eq_getElem (by omega)⟩
      conv => whnf
      refine ⟨⟨Int.natCast_nonneg _, by show (i : Int) < (k : Int); omega, by obtain ⟨q, hq, _⟩ := hz i z hzi; rw [hq]; rfl⟩, ?_⟩
      conv => whnf
      refine ⟨.i .i64 z, ⟨rfl, rfl, rd1 (o := i) (by simp) (hz i z hzi)⟩, ?_⟩
      conv => whnf
      refine ⟨fun hskip => ?_, fun hgo => ?_⟩
      · conv => whnf
        refine ⟨(i + 1, ps, p), rfl, ⟨⟨by show i + 1 ≤ k; omega, by show ps.length ≤ i + 1; omega, hw⟩, by show k - (i + 1) < k - i; omega⟩, ?_⟩
        conv => whnf
        repeat (first | exact trivial | (refine ⟨by first | exact ⟨rfl, rfl, rfl⟩ | rfl | exact wrap64 _ (by omega) | exact ⟨rfl, rfl⟩, ?_⟩; conv => whnf))
      · have hgo : (p : Int) ≤ z ∧ z ≤ (n : Int) := by
          have h2 : (if decide (z < (p : Int)) = true then true else decide (z > (n : Int))) = false := hgo
          by_cases h3 : z < (p : Int)
          · simp [h3] at h2
          · simp [h3] at h2; omega
        obtain ⟨q, rfl⟩ : ∃ q : Nat, z = (q : Int) := ⟨z.toNat, by omega⟩
        have hpq : p ≤ q := by omega
        have hqn : q ≤ n := by omega
        conv => whnf
        refine ⟨⟨Int.natCast_nonneg _, by show (q : Int) ≤ (c : Int); omega⟩, ?_⟩
        conv => whnf
        refine ⟨⟨Int.natCast_nonneg _, by show (p : Int) ≤ (((q : Int).toNat : Nat) : Int); rw [Int.toNat_natCast]; omega⟩, ?_⟩
        conv => whnf
        refine ⟨Nat.le_refl _, ?_⟩
        conv => whnf
        refine ⟨⟨Nat.le_refl _, by show (ps.length + 1) * 24 ≤ _; omega, by show ps.length + 1 ≤ _; omega⟩, ?_⟩
        conv => whnf
        refine ⟨⟨Int.natCast_nonneg _, by show (q : Int) ≤ (c : Int); omega⟩, ?_⟩
        conv => whnf
        refine ⟨⟨Int.natCast_nonneg _, by show (p : Int) ≤ (((q : Int).toNat : Nat) : Int); rw [Int.toNat_natCast]; omega⟩, ?_⟩
        conv => whnf
        have hlen : ((l.drop p).take (q - p)).length = q - p := by rw [List.length_take, List.length_drop]; omega
        refine ⟨⟨Plain.add 0 (l.take p), cutA A c p, c - p, (l.drop p).take (q - p), m⟩, ⟨hb.cut hlc p (q - p), ht, by rw [hlen]; omega⟩, ?_⟩
        conv => whnf
        repeat (first | (refine ⟨by first | exact ⟨rfl, rfl, rfl⟩ | exact ⟨rfl, hlen.symm, rfl⟩ | rfl | exact fun _ _ h => h, ?_⟩; conv => whnf))
        intro _ _
        conv => whnf
        have hps : ps.length + 1 = (ps ++ [(cutA A c p, c - p, (l.drop p).take (q - p))]).length := by simp
        have hsum : ((Plain.add (Plain.add 0 (l.take p)) ((l.drop p).take (q - p))).toNat : Int) = ((Plain.add 0 (l.take q)).toNat : Int) := by
          rw [← Plain.add_append]
          have e : q = p + (q - p) := by omega
          conv => rhs; rw [e, List.take_add]
        have hrow : List.take (ps.length * 1) (ps.map pv) ++ List.take (1 * 1) [Value.slice (cutA A c p) (q - p) (c - p)] = (ps ++ [(cutA A c p, c - p, (l.drop p).take (q - p))]).map pv := by
          rw [Nat.mul_one, List.take_of_length_le (by simp), List.map_append]
          simp [pv, hlen]
        refine ⟨(i + 1, ps ++ [(cutA A c p, c - p, (l.drop p).take (q - p))], q), rfl, ⟨⟨by show i + 1 ≤ k; omega, by show (ps ++ [_]).length ≤ i + 1; simp; omega, hw.snoc hb hlc (by omega) hpq (by omega)⟩, by show k - (i + 1) < k - i; omega⟩, ?_⟩
        conv => whnf
        repeat (first | exact trivial | (refine ⟨by first | exact ⟨rfl, rfl, rfl⟩ | rfl | exact wrap64 _ (by omega) | exact hps | exact hsum | exact ⟨hps, hrow⟩, ?_⟩; conv => whnf))
    · conv => whnf
      have hge : i = k := by have h2 := of_decide_eq_false hge; simp only at h2; omega
      refine ⟨⟨Int.natCast_nonneg _, by show (p : Int) ≤ (n : Int); omega⟩, ?_⟩
      conv => whnf
      refine ⟨Nat.le_refl _, ?_⟩
      conv => whnf
      refine ⟨⟨Nat.le_refl _, by show (ps.length + 1) * 24 ≤ _; omega, by show ps.length + 1 ≤ _; omega⟩, ?_⟩
      conv => whnf
      refine ⟨⟨Int.natCast_nonneg _, by show (p : Int) ≤ (n : Int); omega⟩, ?_⟩
      conv => whnf
      have hlen : ((l.drop p).take (n - p)).length = n - p := by rw [List.length_take, List.length_drop]; omega
      have hw' := hw.snoc (c' := c - p) hb hlc (by omega) (show p ≤ n by omega) (by omega)
      have hall : Plain.add (Plain.add 0 (l.take p)) ((l.drop p).take (n - p)) = Plain.add 0 l := by
        rw [← Plain.add_append]
        have e : (l.drop p).take (n - p) = l.drop p := by rw [List.take_of_length_le]; rw [List.length_drop]; omega
        rw [e, List.take_append_drop]
      have hps : ps.length + 1 = (ps ++ [(cutA A c p, c - p, (l.drop p).take (n - p))]).length := by simp
      have hrow : List.take (ps.length * 1) (ps.map pv) ++ List.take (1 * 1) [Value.slice (cutA A c p) (n - p) (c - p)] = (ps ++ [(cutA A c p, c - p, (l.drop p).take (n - p))]).map pv := by
        rw [Nat.mul_one, List.take_of_length_le (by simp), List.map_append]
        simp [pv, hlen]
      refine ⟨⟨Plain.add 0 (l.take p), cutA A c p, c - p, (l.drop p).take (n - p), m⟩, ⟨hb.cut hlc p (n - p), ht, by rw [hlen]; omega⟩, ?_⟩
      conv => whnf
      repeat (first | (refine ⟨by first | exact ⟨rfl, rfl, rfl⟩ | exact ⟨rfl, hlen.symm, rfl⟩ | rfl | exact fun _ _ h => h, ?_⟩; conv => whnf))
      intro _ _
      conv => whnf
      refine ⟨⟨A, c, l, m⟩, ⟨hb, ht, by omega⟩, ?_⟩
      conv => whnf
      repeat (first | (refine ⟨by first | exact ⟨rfl, rfl, rfl⟩ | exact ⟨rfl, hn, rfl⟩ | rfl | exact fun _ _ h => h, ?_⟩; conv => whnf))
      intro _ _
      conv => whnf
      refine ⟨fun _ => ?_, fun h => by exfalso; have h2 : ((((Plain.add (Plain.add 0 (l.take p)) ((l.drop p).take (n - p))).toNat : Int) == ((Plain.add 0 l).toNat : Int))) = false := h; rw [hall] at h2; simp at h2⟩
      conv => whnf
      intro A' cap m' hS
      conv => whnf
      have hS2 : Sealed m m' A' cap (ps ++ [(cutA A c p, c - p, (l.drop p).take (n - p))]).length 1 ((ps ++ [(cutA A c p, c - p, (l.drop p).take (n - p))]).map pv) := by
        rw [← hps, ← hrow]
        exact hS
      have hLs := hS2.lists hw'
      have hpl : ps.length + 1 = ((ps ++ [(cutA A c p, c - p, (l.drop p).take (n - p))]).map (·.2.2)).length := by rw [List.length_map]; exact hps
      refine ⟨⟨A', cap, (ps ++ [(cutA A c p, c - p, (l.drop p).take (n - p))]).map (·.2.2), m'⟩, ⟨hLs, hS.tabs ht, by rw [← hpl]; omega⟩, ?_⟩
      conv => whnf
      repeat (first | (refine ⟨by first | exact ⟨rfl, rfl, rfl⟩ | exact ⟨rfl, hpl, rfl⟩ | exact ⟨rfl, hpl.symm, rfl⟩ | rfl | exact fun _ _ h => h, ?_⟩; conv => whnf))
      intro _ _
      conv => whnf
      try (refine ⟨fun _ => ?_, fun h => (by cases h)⟩; conv => whnf)
      refine ⟨⟨A, c, l, m⟩, ⟨hb, ht, by omega⟩, ?_⟩
      conv => whnf
      repeat (first | (refine ⟨by first | exact ⟨rfl, rfl, rfl⟩ | exact ⟨rfl, hn, rfl⟩ | rfl | exact fun _ _ h => h, ?_⟩; conv => whnf))
      intro _ _
      conv => whnf
      refine ⟨(), trivial, ?_⟩
      conv => whnf
      refine ⟨?_, ?_⟩
      · show (((Plain.parts 0 ((ps ++ [(cutA A c p, c - p, (l.drop p).take (n - p))]).map (·.2.2))).toNat : Int) == ((Plain.add 0 l).toNat : Int)) = true
        rw [hw'.sum]
        have e : l.take n = l := by rw [hn, List.take_length]
        rw [e]
        simp
      conv => whnf
      exact fun _ _ h => h
end Go.Proofs.YtaeoibnbbpgajaaDoor.Sx
