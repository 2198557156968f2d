/- The plain law of the sums: words of 32 bits, no program. -/
namespace Go.Proofs.YtaeoibnbbpgajaaDoor.Plain

abbrev W32 := BitVec 32

/-- One bit of the document's sum. -/
def bit (r : W32) : W32 := if r &&& 1#32 = 1#32 then (r >>> 1) ^^^ 0xEDB88320#32 else r >>> 1
def bits4 (r : W32) : W32 := bit (bit (bit (bit r)))
def byte (r : W32) : W32 := bits4 (bits4 r)
def tabL : List W32 := [0x00000000#32, 0x1db71064#32, 0x3b6e20c8#32, 0x26d930ac#32, 0x76dc4190#32, 0x6b6b51f4#32, 0x4db26158#32, 0x5005713c#32,
  0xedb88320#32, 0xf00f9344#32, 0xd6d6a3e8#32, 0xcb61b38c#32, 0x9b64c2b0#32, 0x86d3d2d4#32, 0xa00ae278#32, 0xbdbdf21c#32]
def tab (i : Nat) : W32 := tabL.getD i 0#32
/-- Four bits by the table. -/
def half (r : W32) : W32 := (r >>> 4) ^^^ tab (r &&& 15#32).toNat

theorem bit_even (r : W32) (h : r &&& 1#32 = 0#32) : bit r = r >>> 1 := by
  unfold bit; rw [h]; simp

theorem and1 (r : W32) : r &&& 1#32 = 0#32 ∨ r &&& 1#32 = 1#32 := by
  have : ∀ b : Bool, (BitVec.ofBool b).zeroExtend 32 = 0#32 ∨ (BitVec.ofBool b).zeroExtend 32 = 1#32 := by decide
  have e : r &&& 1#32 = (BitVec.ofBool (r.getLsbD 0)).zeroExtend 32 := by
    ext i hi
    simp [BitVec.getElem_one]
    by_cases h : i = 0
    · subst h; simp
    · simp [h]
  rw [e]; exact this _

theorem xor4 (a b p : W32) : a ^^^ p ^^^ (b ^^^ p) = a ^^^ b := by
  ext i hi; simp; cases a[i] <;> cases b[i] <;> cases p[i] <;> rfl

theorem bit_xor (a b : W32) : bit (a ^^^ b) = bit a ^^^ bit b := by
  have e : (a ^^^ b) &&& 1#32 = (a &&& 1#32) ^^^ (b &&& 1#32) := by
    ext i hi; simp; cases a[i] <;> cases b[i] <;> simp
  have s : (a ^^^ b) >>> 1 = (a >>> 1) ^^^ (b >>> 1) := by
    ext i hi; simp
  unfold bit
  rw [e, s]
  rcases and1 a with h | h <;> rcases and1 b with g | g <;> rw [h, g] <;> simp
  · rw [BitVec.xor_assoc]
  · rw [BitVec.xor_assoc, BitVec.xor_assoc, BitVec.xor_comm _ (b >>> 1)]
  · rw [xor4]

theorem bit_zero : bit 0#32 = 0#32 := by decide
theorem bits4_xor (a b : W32) : bits4 (a ^^^ b) = bits4 a ^^^ bits4 b := by simp only [bits4, bit_xor]
theorem byte_xor (a b : W32) : byte (a ^^^ b) = byte a ^^^ byte b := by simp only [byte, bits4_xor]
theorem byte_zero : byte 0#32 = 0#32 := by decide

theorem bit_inj0 (c : W32) (h : bit c = 0#32) : c = 0#32 := by
  unfold bit at h
  rcases and1 c with g | g <;> rw [g] at h
  · simp at h
    ext i hi
    by_cases hi0 : i = 0
    · subst hi0
      have := congrArg (fun x : W32 => x[0]) g
      simpa using this
    · have := congrArg (fun x : W32 => x[i - 1]) h
      simp at this
      have e : 1 + (i - 1) = i := by omega
      rw [e] at this
      rw [← BitVec.getLsbD_eq_getElem]
      simpa using this
  · simp at h
    have := congrArg (fun x : W32 => x[31]) h
    simp at this

theorem bit_inj (a b : W32) (h : bit a = bit b) : a = b := by
  have : bit (a ^^^ b) = 0#32 := by rw [bit_xor, h, BitVec.xor_self]
  have := bit_inj0 _ this
  exact BitVec.xor_eq_zero_iff.1 this
theorem bits4_inj (a b : W32) (h : bits4 a = bits4 b) : a = b := bit_inj _ _ (bit_inj _ _ (bit_inj _ _ (bit_inj _ _ h)))
theorem byte_inj (a b : W32) (h : byte a = byte b) : a = b := bits4_inj _ _ (bits4_inj _ _ h)

/-- What has zeros in the lowest place is shifted. -/
theorem bit_shl (r : W32) (h : r.getLsbD 31 = false) : bit (r <<< 1) = r := by
  rw [bit_even]
  · ext i hi
    simp
    by_cases h31 : i = 31
    · subst h31; simp at h; simp [h]
    · rw [BitVec.getLsbD_eq_getElem hi]
      have : 1 + i < 32 := by omega
      simp [this]
  · ext i hi
    simp
    by_cases h0 : i = 0
    · subst h0; simp
    · simp [h0]

theorem bit4_hi (r : W32) : bits4 (r <<< 4 >>> 4 <<< 4) = r <<< 4 >>> 4 := by
  have e : (r <<< 4 >>> 4 <<< 4) = ((((r <<< 4 >>> 4) <<< 1) <<< 1) <<< 1) <<< 1 := by
    simp only [← BitVec.shiftLeft_add]
  rw [e]
  unfold bits4
  rw [bit_shl, bit_shl, bit_shl, bit_shl] <;> simp

theorem half_eq (r : W32) : half r = bits4 r := by
  have e : r = ((r >>> 4) <<< 4 >>> 4 <<< 4) ^^^ (r &&& 15#32) := by
    have h15 : ∀ i : Nat, i < 32 → (15#32).getLsbD i = decide (i < 4) := by decide
    apply BitVec.eq_of_getLsbD_eq
    intro i hi
    simp only [BitVec.getLsbD_xor, BitVec.getLsbD_and, h15 i hi]
    simp only [BitVec.getLsbD_shiftLeft, BitVec.getLsbD_ushiftRight]
    by_cases h4 : i < 4
    · simp [h4]
    · simp [h4]
      have : 4 + (i - 4) = i := by omega
      rw [this]
      simp [hi]
      omega
  have e2 : (r >>> 4) <<< 4 >>> 4 = r >>> 4 := by
    apply BitVec.eq_of_getLsbD_eq
    intro i hi
    simp only [BitVec.getLsbD_shiftLeft, BitVec.getLsbD_ushiftRight]
    by_cases h4 : 4 + i < 32
    · simp [h4]
    · simp [h4]
      rw [BitVec.getLsbD_of_ge _ _ (by omega)]
  have lo : ∀ n : Nat, n < 16 → tab (BitVec.ofNat 32 n).toNat = bits4 (BitVec.ofNat 32 n) := by decide
  have hn : (r &&& 15#32).toNat < 16 := by
    rw [BitVec.toNat_and]
    exact Nat.lt_succ_of_le Nat.and_le_right
  have := lo _ hn
  rw [BitVec.ofNat_toNat, BitVec.setWidth_eq] at this
  have h1 : bits4 r = bits4 ((r >>> 4) <<< 4 >>> 4 <<< 4) ^^^ bits4 (r &&& 15#32) := by rw [← bits4_xor, ← e]
  rw [h1, bit4_hi, e2, ← this]
  rfl

abbrev W8 := BitVec 8
/-- A byte that comes. -/
def step (r : W32) (x : W8) : W32 := byte (r ^^^ x.setWidth 32)
def run (r : W32) (xs : List W8) : W32 := xs.foldl step r
def add (s : W32) (xs : List W8) : W32 := ~~~ (run (~~~ s) xs)

theorem run_append (r : W32) (xs ys : List W8) : run r (xs ++ ys) = run (run r xs) ys := by simp [run]
theorem add_append (s : W32) (xs ys : List W8) : add s (xs ++ ys) = add (add s xs) ys := by simp [add, run_append]
theorem add_nil (s : W32) : add s [] = s := by simp [add, run]
theorem run_snoc (r : W32) (xs : List W8) (x : W8) : run r (xs ++ [x]) = step (run r xs) x := by simp [run]
theorem run_take (r : W32) (xs : List W8) (i : Nat) (x : W8) (h : xs[i]? = some x) : run r (xs.take (i + 1)) = step (run r (xs.take i)) x := by
  rw [List.take_add_one, h, Option.toList_some, run_snoc]
/-- The sum of several lists, one behind the other. -/
def parts (s : W32) (ls : List (List W8)) : W32 := ls.foldl add s
theorem parts_eq (ls : List (List W8)) : ∀ s, parts s ls = add s ls.flatten := by
  induction ls with
  | nil => intro s; simp [parts, add_nil]
  | cons l ls ih =>
    intro s
    show parts (add s l) ls = _
    rw [ih, List.flatten_cons, add_append]
theorem parts_take (s : W32) (ls : List (List W8)) (i : Nat) (x : List W8) (h : ls[i]? = some x) : parts s (ls.take (i + 1)) = add (parts s (ls.take i)) x := by
  rw [List.take_add_one, h, Option.toList_some]; simp [parts]

theorem step_inj (x : W8) (a b : W32) (h : step a x = step b x) : a = b := by
  have := byte_inj _ _ h
  have := congrArg (· ^^^ x.setWidth 32) this
  simpa [BitVec.xor_assoc] using this
theorem run_inj (xs : List W8) : ∀ a b : W32, run a xs = run b xs → a = b := by
  induction xs with
  | nil => intro a b h; exact h
  | cons x xs ih => intro a b h; exact step_inj x _ _ (ih _ _ h)
theorem not_inj (a b : W32) (h : ~~~ a = ~~~ b) : a = b := by
  have := congrArg (~~~ ·) h
  simpa using this
theorem add_inj (xs : List W8) (a b : W32) (h : add a xs = add b xs) : a = b := not_inj _ _ (run_inj xs _ _ (not_inj _ _ h))

theorem width_xor (x y : W8) : (x ^^^ y).setWidth 32 = x.setWidth 32 ^^^ y.setWidth 32 := by
  ext i hi; simp
/-- Three lists of one length. -/
theorem run_mix (xs : List (W8 × W8 × W8)) :
    ∀ a b c : W32, run (a ^^^ b ^^^ c) (xs.map fun p => p.1 ^^^ p.2.1 ^^^ p.2.2) = run a (xs.map (·.1)) ^^^ run b (xs.map (·.2.1)) ^^^ run c (xs.map (·.2.2)) := by
  induction xs with
  | nil => intro a b c; rfl
  | cons p xs ih =>
    intro a b c
    simp only [List.map_cons, run, List.foldl_cons] at ih ⊢
    have : step (a ^^^ b ^^^ c) (p.1 ^^^ p.2.1 ^^^ p.2.2) = step a p.1 ^^^ step b p.2.1 ^^^ step c p.2.2 := by
      unfold step
      rw [← byte_xor, ← byte_xor, width_xor, width_xor]
      congr 1
      ext i hi
      simp only [BitVec.getElem_xor]
      cases a[i] <;> cases b[i] <;> cases c[i] <;> simp
    rw [this]
    exact ih _ _ _
theorem add_mix (xs : List (W8 × W8 × W8)) :
    add 0#32 (xs.map fun p => p.1 ^^^ p.2.1 ^^^ p.2.2) = add 0#32 (xs.map (·.1)) ^^^ add 0#32 (xs.map (·.2.1)) ^^^ add 0#32 (xs.map (·.2.2)) := by
  unfold add
  have h := run_mix xs (~~~ 0#32) (~~~ 0#32) (~~~ 0#32)
  have e : (~~~ 0#32) ^^^ (~~~ 0#32) ^^^ (~~~ 0#32) = ~~~ 0#32 := by decide
  rw [e] at h
  rw [h]
  ext i hi
  simp

/-! ### up to four bytes beside each other -/
def sm (k : Nat) (q : W32) : Prop := ∀ i, k ≤ i → q.getLsbD i = false
theorem sm_byte (x : W8) : sm 8 (x.setWidth 32) := by
  intro i hi
  rw [BitVec.getLsbD_setWidth, BitVec.getLsbD_of_ge x i hi]
  simp
theorem sm_next {k : Nat} {q : W32} (h : sm k q) (x : W8) : sm (k + 8) ((q <<< 8) ^^^ x.setWidth 32) := by
  intro i hi
  rw [BitVec.getLsbD_xor, sm_byte x i (by omega), BitVec.getLsbD_shiftLeft, h (i - 8) (by omega)]
  simp
theorem byte_shl (r : W32) (h : sm 24 r) : byte (r <<< 8) = r := by
  have e : r <<< 8 = (((((((r <<< 1) <<< 1) <<< 1) <<< 1) <<< 1) <<< 1) <<< 1) <<< 1 := by
    simp only [← BitVec.shiftLeft_add]
  rw [e]
  unfold byte bits4
  have hb : ∀ k, k ≤ 7 → (r <<< k).getLsbD 31 = false := fun k hk => by
    rw [BitVec.getLsbD_shiftLeft, h (31 - k) (by omega)]; simp
  rw [bit_shl, bit_shl, bit_shl, bit_shl, bit_shl, bit_shl, bit_shl, bit_shl]
  all_goals first | exact h 31 (by omega) | exact hb 1 (by decide) | (simp only [← BitVec.shiftLeft_add]; exact hb _ (by decide))
theorem step_zero : step 0#32 0#8 = 0#32 := by decide
theorem run_zeros : ∀ n : Nat, run 0#32 (List.replicate n 0#8) = 0#32
  | 0 => rfl
  | n + 1 => by
    rw [List.replicate_succ]
    show run (step 0#32 0#8) (List.replicate n 0#8) = 0#32
    rw [step_zero]
    exact run_zeros n
theorem run_zero (xs : List W8) (h : ∀ x ∈ xs, x = 0#8) : run 0#32 xs = 0#32 := by
  rw [List.eq_replicate_of_mem h]
  exact run_zeros _
theorem run_xor2 : ∀ (xs ys : List W8), xs.length = ys.length → ∀ a b : W32, run a xs ^^^ run b ys = run (a ^^^ b) (List.zipWith (· ^^^ ·) xs ys)
  | [], [], _, a, b => rfl
  | x :: xs, y :: ys, h, a, b => by
    have hl : xs.length = ys.length := by simpa using h
    show run (step a x) xs ^^^ run (step b y) ys = run (step (a ^^^ b) (x ^^^ y)) _
    rw [run_xor2 xs ys hl]
    congr 1
    unfold step
    rw [← byte_xor, width_xor]
    congr 1
    ext i hi
    simp only [BitVec.getElem_xor]
    cases a[i] <;> cases b[i] <;> simp
  | [], _ :: _, h, _, _ => by simp at h
  | _ :: _, [], h, _, _ => by simp at h

/-- Out of nothing: a byte is undone. -/
theorem undo (r : W32) (x : W8) (q : W32) (hq : sm 24 q) (h : step r x = q) : r = (q <<< 8) ^^^ x.setWidth 32 := by
  have h1 : byte (r ^^^ x.setWidth 32) = byte (q <<< 8) := by rw [byte_shl q hq]; exact h
  have h2 := byte_inj _ _ h1
  have := congrArg (· ^^^ x.setWidth 32) h2
  simpa [BitVec.xor_assoc] using this
theorem apart {q : W32} (hq : sm 24 q) {x : W8} (h : (0#32) = (q <<< 8) ^^^ x.setWidth 32) : q = 0#32 ∧ x = 0#8 := by
  constructor
  · apply BitVec.eq_of_getLsbD_eq
    intro i hi
    have h1 := congrArg (fun v : W32 => v.getLsbD (i + 8)) h
    simp only [BitVec.getLsbD_xor, BitVec.getLsbD_shiftLeft, sm_byte x (i + 8) (by omega), BitVec.getLsbD_zero] at h1
    by_cases h24 : 24 ≤ i
    · rw [hq i h24]; simp
    · have e1 : i + 8 < 32 := by omega
      simp [e1] at h1
      simp [h1]
  · apply BitVec.eq_of_getLsbD_eq
    intro i hi
    have h1 := congrArg (fun v : W32 => v.getLsbD i) h
    simp only [BitVec.getLsbD_xor, BitVec.getLsbD_shiftLeft, BitVec.getLsbD_setWidth, BitVec.getLsbD_zero] at h1
    have e1 : i < 32 := by omega
    simp [hi, e1] at h1
    rw [BitVec.getLsbD_eq_getElem hi]
    simpa using h1
theorem tells (xs : List W8) (hl : xs.length ≤ 4) (h : run 0#32 xs = 0#32) : ∀ x ∈ xs, x = 0#8 := by
  have z : sm 24 0#32 := fun i _ => by simp
  have z8 : (0#32) <<< 8 = 0#32 := by decide
  match xs, hl, h with
  | [], _, _ => intro x hx; cases hx
  | [a], _, h =>
    have e1 := undo 0#32 a _ z h
    obtain ⟨_, ha⟩ := apart z e1
    intro x hx
    simp only [List.mem_singleton] at hx
    rw [hx, ha]
  | [a, b], _, h =>
    have e2 := undo _ b _ z h
    rw [z8, BitVec.zero_xor] at e2
    have s2 : sm 24 (b.setWidth 32) := fun i hi => sm_byte b i (by omega)
    have e1 := undo _ a _ s2 e2
    obtain ⟨hb, ha⟩ := apart s2 e1
    obtain ⟨_, hb⟩ := apart z (x := b) (by rw [z8, BitVec.zero_xor]; exact hb.symm)
    intro x hx
    simp only [List.mem_cons, List.not_mem_nil, or_false] at hx
    rcases hx with rfl | rfl
    · exact ha
    · exact hb
  | [a, b, c], _, h =>
    have e3 := undo _ c _ z h
    rw [z8, BitVec.zero_xor] at e3
    have s3 : sm 24 (c.setWidth 32) := fun i hi => sm_byte c i (by omega)
    have e2 := undo _ b _ s3 e3
    have s2 : sm 24 ((c.setWidth 32 <<< 8) ^^^ b.setWidth 32) := fun i hi => sm_next (sm_byte c) b i (by omega)
    have e1 := undo _ a _ s2 e2
    obtain ⟨h2, ha⟩ := apart s2 e1
    obtain ⟨h3, hb⟩ := apart s3 h2.symm
    obtain ⟨_, hc⟩ := apart z (x := c) (by rw [z8, BitVec.zero_xor]; exact h3.symm)
    intro x hx
    simp only [List.mem_cons, List.not_mem_nil, or_false] at hx
    rcases hx with rfl | rfl | rfl
    · exact ha
    · exact hb
    · exact hc
  | [a, b, c, d], _, h =>
    have e4 := undo _ d _ z h
    rw [z8, BitVec.zero_xor] at e4
    have s4 : sm 24 (d.setWidth 32) := fun i hi => sm_byte d i (by omega)
    have e3 := undo _ c _ s4 e4
    have s3 : sm 24 ((d.setWidth 32 <<< 8) ^^^ c.setWidth 32) := fun i hi => sm_next (sm_byte d) c i (by omega)
    have e2 := undo _ b _ s3 e3
    have s2 : sm 24 ((((d.setWidth 32 <<< 8) ^^^ c.setWidth 32) <<< 8) ^^^ b.setWidth 32) := sm_next (sm_next (sm_byte d) c) b
    have e1 := undo _ a _ s2 e2
    obtain ⟨h2, ha⟩ := apart s2 e1
    obtain ⟨h3, hb⟩ := apart s3 h2.symm
    obtain ⟨h4, hc⟩ := apart s4 h3.symm
    obtain ⟨_, hd⟩ := apart z (x := d) (by rw [z8, BitVec.zero_xor]; exact h4.symm)
    intro x hx
    simp only [List.mem_cons, List.not_mem_nil, or_false] at hx
    rcases hx with rfl | rfl | rfl | rfl
    · exact ha
    · exact hb
    · exact hc
    · exact hd
  | _ :: _ :: _ :: _ :: _ :: _, hl, _ => exact absurd hl (by simp)

/-- Bytes turned at up to four places beside each other turn the sum; and no others do. -/
theorem add_tells (s : W32) (pre mid mid' post : List W8) (hl : mid.length = mid'.length) (h4 : mid.length ≤ 4) (h : add s (pre ++ mid ++ post) = add s (pre ++ mid' ++ post)) : mid = mid' := by
  simp only [add_append] at h
  have h1 := add_inj _ _ _ h
  have h2 := not_inj _ _ h1
  have h3 := run_xor2 mid mid' hl (~~~ add s pre) (~~~ add s pre)
  rw [h2, BitVec.xor_self, BitVec.xor_self] at h3
  have h5 := tells _ (by rw [List.length_zipWith, ← hl, Nat.min_self]; exact h4) h3.symm
  apply List.ext_getElem hl
  intro i hi hi'
  have := h5 (mid[i] ^^^ mid'[i]) (by
    rw [List.mem_iff_getElem]
    exact ⟨i, by rw [List.length_zipWith, ← hl, Nat.min_self]; exact hi, by rw [List.getElem_zipWith]⟩)
  exact BitVec.xor_eq_zero_iff.1 this
end Go.Proofs.YtaeoibnbbpgajaaDoor.Plain
