/- The plain law of bytes that are turned at up to four places beside each other. -/
import Derived.Test.YtaeoibnbbpgajaaDoorPlain
namespace Go.Proofs.YtaeoibnbbpgajaaDoor.Plain

def hits (at' : Int) (n i : Nat) : Bool := decide (0 ≤ at') && decide (at' < (n : Int) - (i : Int))
/-- The bytes behind i masks. -/
def ap (l : List W8) (at' : Int) (ms : Nat → W8) : Nat → List W8
  | 0 => l
  | i + 1 => if hits at' l.length i then (ap l at' ms i).modify (at'.toNat + i) (· ^^^ ms i) else ap l at' ms i
def un (n : Nat) (at' : Int) (ms : Nat → W8) : Nat → Bool
  | 0 => false
  | i + 1 => if hits at' n i then un n at' ms i || (ms i != 0#8) else un n at' ms i
theorem ap_len (l : List W8) (at' : Int) (ms : Nat → W8) : ∀ i, (ap l at' ms i).length = l.length
  | 0 => rfl
  | i + 1 => by
    unfold ap
    split
    · rw [List.length_modify, ap_len l at' ms i]
    · exact ap_len l at' ms i
theorem ap_get (l : List W8) (at' : Int) (ms : Nat → W8) (h0 : 0 ≤ at') (p : Nat) (hp : at'.toNat = p) : ∀ i j, (ap l at' ms i)[j]? = (l[j]?).map fun x => if p ≤ j ∧ j < p + i then x ^^^ ms (j - p) else x
  | 0, j => by
    have : ¬ (p ≤ j ∧ j < p + 0) := by omega
    simp only [this, if_false]
    cases h : l[j]? <;> simp [ap, h]
  | i + 1, j => by
    have ih := ap_get l at' ms h0 p hp i
    unfold ap
    split
    · rename_i hh
      rw [List.getElem?_modify, hp, ih]
      cases hl : l[j]? with
      | none => rfl
      | some x =>
        show some (if p + i = j then (if p ≤ j ∧ j < p + i then x ^^^ ms (j - p) else x) ^^^ ms i else (if p ≤ j ∧ j < p + i then x ^^^ ms (j - p) else x)) = some (if p ≤ j ∧ j < p + (i + 1) then x ^^^ ms (j - p) else x)
        by_cases hj : p + i = j
        · subst hj
          have h1 : ¬ (p ≤ p + i ∧ p + i < p + i) := by omega
          have h2 : p ≤ p + i ∧ p + i < p + (i + 1) := by omega
          rw [if_pos rfl, if_neg h1, if_pos h2, Nat.add_sub_cancel_left]
        · rw [if_neg hj]
          by_cases h1 : p ≤ j ∧ j < p + i
          · rw [if_pos h1, if_pos (by omega)]
          · rw [if_neg h1, if_neg (by omega)]
    · rename_i hh
      rw [ih]
      cases hl : l[j]? with
      | none => rfl
      | some x =>
        show some (if p ≤ j ∧ j < p + i then x ^^^ ms (j - p) else x) = some (if p ≤ j ∧ j < p + (i + 1) then x ^^^ ms (j - p) else x)
        by_cases hj : p + i = j
        · subst hj
          exfalso
          have hjl := (List.getElem?_eq_some_iff.1 hl).1
          simp only [hits, Bool.and_eq_true, decide_eq_true_eq, not_and] at hh
          have := hh h0
          omega
        · by_cases h1 : p ≤ j ∧ j < p + i
          · rw [if_pos h1, if_pos (by omega)]
          · rw [if_neg h1, if_neg (by omega)]
theorem un_iff (n : Nat) (at' : Int) (ms : Nat → W8) : ∀ i, un n at' ms i = true ↔ ∃ k, k < i ∧ hits at' n k = true ∧ ms k ≠ 0#8
  | 0 => by simp [un]
  | i + 1 => by
    unfold un
    split
    · rename_i hh
      simp only [Bool.or_eq_true, un_iff n at' ms i, bne_iff_ne]
      constructor
      · rintro (⟨k, h1, h2⟩ | h)
        · exact ⟨k, by omega, h2⟩
        · exact ⟨i, by omega, hh, h⟩
      · rintro ⟨k, h1, h2, h3⟩
        by_cases hk : k = i
        · subst hk; exact .inr h3
        · exact .inl ⟨k, by omega, h2, h3⟩
    · rename_i hh
      rw [un_iff n at' ms i]
      constructor
      · rintro ⟨k, h1, h2⟩
        exact ⟨k, by omega, h2⟩
      · rintro ⟨k, h1, h2, h3⟩
        by_cases hk : k = i
        · subst hk; exact absurd h2 hh
        · exact ⟨k, by omega, h2, h3⟩

theorem turned (l : List W8) (at' : Int) (ms : Nat → W8) : (add 0 l ≠ add 0 (ap l at' ms 4)) ↔ un l.length at' ms 4 = true := by
  by_cases h0 : 0 ≤ at'
  · obtain ⟨p, hp⟩ : ∃ p, at'.toNat = p := ⟨_, rfl⟩
    have hg := ap_get l at' ms h0 p hp 4
    have hlen := ap_len l at' ms 4
    generalize hc : ap l at' ms 4 = c at hg hlen
    rw [un_iff]
    constructor
    · intro hne
      apply Classical.byContradiction
      intro hno
      apply hne
      have : c = l := by
        apply List.ext_getElem?
        intro j
        rw [hg]
        cases hj : l[j]? with
        | none => rfl
        | some x =>
          simp only [Option.map_some, Option.some.injEq]
          split
          · rename_i hr
            have hjl : j < l.length := (List.getElem?_eq_some_iff.1 hj).1
            have : ms (j - p) = 0#8 := by
              apply Classical.byContradiction
              intro hm
              refine hno ⟨j - p, by omega, ?_, hm⟩
              simp only [hits, Bool.and_eq_true, decide_eq_true_eq]
              omega
            rw [this]; simp
          · rfl
      rw [this]
    · rintro ⟨k, hk, hh, hm⟩ heq
      simp only [hits, Bool.and_eq_true, decide_eq_true_eq] at hh
      have hkl : p + k < l.length := by omega
      have e1 : l = l.take p ++ (l.drop p).take 4 ++ (l.drop p).drop 4 := by
        rw [List.append_assoc, List.take_append_drop, List.take_append_drop]
      have e2 : c = l.take p ++ (c.drop p).take 4 ++ (l.drop p).drop 4 := by
        have a1 : c.take p = l.take p := by
          apply List.ext_getElem?
          intro j
          rw [List.getElem?_take, List.getElem?_take]
          split
          · rw [hg]
            have : ¬ (p ≤ j ∧ j < p + 4) := by omega
            simp [this]
          · rfl
        have a2 : (c.drop p).drop 4 = (l.drop p).drop 4 := by
          apply List.ext_getElem?
          intro j
          rw [List.drop_drop, List.drop_drop, List.getElem?_drop, List.getElem?_drop, hg]
          have : ¬ (p ≤ p + 4 + j ∧ p + 4 + j < p + 4) := by omega
          simp [this]
        rw [← a1, ← a2, List.append_assoc, List.take_append_drop, List.take_append_drop]
      rw [e1, e2] at heq
      have h4 := add_tells 0 (l.take p) ((l.drop p).take 4) ((c.drop p).take 4) ((l.drop p).drop 4) (by simp [hlen]) (by simp; omega) heq
      have h5 := congrArg (fun q => q[k]?) h4
      simp only [List.getElem?_take, hk, if_true, List.getElem?_drop, hg] at h5
      rw [List.getElem?_eq_getElem hkl] at h5
      have hr : p ≤ p + k ∧ p + k < p + 4 := by omega
      have hs : p + k - p = k := by omega
      simp only [Option.map_some, hr, and_self, if_true, hs, Option.some.injEq] at h5
      apply hm
      have := congrArg (l[p + k] ^^^ ·) h5
      simp only [BitVec.xor_self, ← BitVec.xor_assoc, BitVec.zero_xor] at this
      exact this.symm
  · have hh : ∀ n i, hits at' n i = false := fun n i => by simp [hits, h0]
    have hu : ∀ i, un l.length at' ms i = false := by
      intro i
      induction i with
      | zero => rfl
      | succ i ih => unfold un; rw [hh]; simpa using ih
    have ha : ∀ i, ap l at' ms i = l := by
      intro i
      induction i with
      | zero => rfl
      | succ i ih => unfold ap; rw [hh]; simpa using ih
    rw [hu, ha]
    simp
end Go.Proofs.YtaeoibnbbpgajaaDoor.Plain
