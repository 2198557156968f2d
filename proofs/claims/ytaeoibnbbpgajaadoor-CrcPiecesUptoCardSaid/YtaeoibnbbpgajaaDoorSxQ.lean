/- Symbolic execution, seventeenth text: runs of operations are evaluated rightly. -/
import Derived.Test.YtaeoibnbbpgajaaDoorSxP
namespace Go.Proofs.YtaeoibnbbpgajaaDoor.Sx

/-! ### tags and tests -/
theorem tagB_in {gs gs' : Gs} (hg : ∀ j g tg, lookG gs' j = some (g, tg) → ∃ tg', lookG gs j = some (g, tg')) : ∀ {tag : Tag}, tagIn gs' tag = true → tagB gs' tag = tagB gs tag
  | [], _ => rfl
  | (j, w) :: r, h => by
    simp only [tagIn, Bool.and_eq_true] at h
    simp only [tagB]
    rw [tagB_in hg h.2]
    congr 1
    cases hl : lookG gs' j with
    | none => rw [hl] at h; cases h.1
    | some p =>
      obtain ⟨g, tg⟩ := p
      obtain ⟨tg', hl'⟩ := hg j g tg hl
      rw [hl']
theorem tagsIn_look {gs : Gs} : ∀ {t : List Slot} {k : Nat} {tag : Tag} {x : SV}, tagsIn gs t = true → look t k = some (tag, x) → tagIn gs tag = true
  | [], _, _, _, _, h => by cases h
  | ⟨n, tg, y⟩ :: r, k, tag, x, ho, h => by
    simp only [tagsIn, Bool.and_eq_true] at ho
    simp only [look] at h
    split at h
    · cases h; exact ho.1
    · exact tagsIn_look ho.2 h
theorem tagsInG_look {gs : Gs} : ∀ {l : Gs} {j : Nat} {g : Bool} {tag : Tag}, tagsInG gs l = true → lookG l j = some (g, tag) → tagIn gs tag = true
  | [], _, _, _, _, h => by cases h
  | (n, g', tg) :: r, j, g, tag, ho, h => by
    simp only [tagsInG, Bool.and_eq_true] at ho
    simp only [lookG] at h
    split at h
    · cases h; exact ho.1
    · exact tagsInG_look ho.2 h
theorem dstOf_arr {ops : Array Oper} {j : Nat} : dstOf ops.toList j = (ops[j]?).bind (·.dst) := by
  rw [← Array.getElem?_toList]
  generalize ops.toList = l
  induction l generalizing j with
  | nil => rfl
  | cons o r ih => cases j <;> simp [dstOf, ih]

section
variable {P : Program} {T : Tbl} (hT : TOk P T) {B : Base} {ops : Array Oper} {η : Names} {m : Mem} {st : St} {a : Act} {w : World}

theorem gsFree_sound {l : List Oper} {d : Nat} : ∀ {gs : Gs}, gsFree l d gs = true → ∀ j p d', lookG gs j = some p → dstOf l j = some d' → d' ≠ d
  | [], _, _, _, _, h, _ => by cases h
  | (i, q) :: r, hf, j, p, d', h, hd => by
    simp only [gsFree, Bool.and_eq_true] at hf
    simp only [lookG] at h
    split at h
    · rename_i hb
      obtain rfl := beq_eq hb
      have h1 := hf.1
      rw [hd] at h1
      intro e
      subst e
      simp [Nat.beq_refl] at h1
    · exact gsFree_sound hf.2 j p d' h hd

theorem putS_sound {l : List Oper} {d : Option Nat} {tag : Tag} {x : SV} {K : St → Prop} (hG : Good B l η m st a w) (h : putS l st d tag x K) {v : Value} (hv : v = if tagB st.gs tag then den η x else undef) :
    ∃ st', K st' ∧ Good B l η m st' (a.put d v) w ∧ st'.gs = st.gs := by
  cases d with
  | none => exact ⟨st, h, hG, rfl⟩
  | some d =>
    simp only [putS] at h
    split at h
    · rename_i hb
      simp only [Bool.and_eq_true] at hb
      obtain ⟨hlt, hfree⟩ := hb
      have hlt := blt_lt hlt
      obtain ⟨sz, t, gs, hp, nx⟩ := st
      refine ⟨_, h, ⟨hG.H, ⟨?_, hG.T.df, fun k tg y hl => ?_, fun j g tg hl => ?_⟩⟩, rfl⟩
      · simp only [Act.put, Array.size_setIfInBounds]
        exact hG.T.sz
      · simp only [look] at hl
        split at hl
        · rename_i hbe
          obtain rfl := beq_eq hbe
          cases hl
          have : d < a.tmps.size := by rw [hG.T.sz]; exact hlt
          simp only [Act.put]
          rw [Array.getElem?_setIfInBounds_self_of_lt this, hv]
        · rename_i hbe
          have hne : d ≠ k := fun e => by subst e; rw [Nat.beq_refl] at hbe; cases hbe
          simp only [Act.put]
          rw [Array.getElem?_setIfInBounds_ne hne]
          exact hG.T.sl k tg y hl
      · obtain ⟨d', hd', hl'⟩ := hG.T.gs j g tg hl
        have hne : d' ≠ d := gsFree_sound hfree j _ d' hl hd'
        refine ⟨d', hd', ?_⟩
        simp only [look, beq_ne (Ne.symm hne)]
        exact hl'
    · exact h.elim

/-- What a guarded operation's guard says. -/
theorem wanted_eq {o : Oper} {j : Nat} {w0 : Bool} {d : Nat} {tg : Tag} {g : Bool} (hT' : HoldT ops.toList η st a) (hg : o.guard = some (j, w0)) (hd : dstOf ops.toList j = some d)
    (hl : look st.t d = some (tg, .b g)) : Region.wanted o (yielded ops a.tmps) = (tagB st.gs tg && (g == w0)) := by
  have hs := hT'.sl d tg _ hl
  rw [dstOf_arr] at hd
  simp only [Region.wanted, hg, yielded, hd, Option.bind_some, hs]
  cases ht : tagB st.gs tg
  · simp [undef]
  · cases g <;> cases w0 <;> simp [den]

theorem addG_sound {l : List Oper} {j : Nat} {g : Bool} {tg : Tag} {d : Nat} {K : St → Prop} (hG : Good B l η m st a w) (hd : dstOf l j = some d) (hl : look st.t d = some (tg, .b g)) (h : addG st j g tg K) :
    ∃ st', K st' ∧ Good B l η m st' a w ∧ st'.t = st.t ∧ lookG st'.gs j = some (g, tg) ∧ tagB st'.gs tg = tagB st.gs tg := by
  unfold addG at h
  split at h
  · rename_i p hp
    obtain ⟨g0, tg0⟩ := p
    obtain ⟨d', hd', hl'⟩ := hG.T.gs j g0 tg0 hp
    rw [hd] at hd'
    cases hd'
    rw [hl] at hl'
    cases hl'
    exact ⟨st, h, hG, rfl, hp, rfl⟩
  · rename_i hn
    split at h
    · rename_i hb
      simp only [Bool.and_eq_true] at hb
      obtain ⟨sz, t, gs, hp, nx⟩ := st
      have hgrow : ∀ i g' tg', lookG gs i = some (g', tg') → ∃ tg'', lookG ((j, g, tg) :: gs) i = some (g', tg'') := by
        intro i g' tg' hi
        refine ⟨tg', ?_⟩
        simp only [lookG]
        have : j ≠ i := fun e => by subst e; simp only at hn; rw [hn] at hi; cases hi
        rw [beq_ne this]
        exact hi
      have hsame : ∀ {tag : Tag}, tagIn gs tag = true → tagB ((j, g, tg) :: gs) tag = tagB gs tag := fun ht => (tagB_in hgrow ht).symm
      refine ⟨_, h, ⟨hG.H, ⟨hG.T.sz, hG.T.df, fun k tag x hk => ?_, fun i g' tg' hi => ?_⟩⟩, rfl, by simp [lookG, Nat.beq_refl], hsame (tagsIn_look hb.1 hl)⟩
      · have := hG.T.sl k tag x hk
        rw [this]
        simp only [hsame (tagsIn_look hb.1 hk)]
      · simp only [lookG] at hi
        split at hi
        · rename_i hbe
          obtain rfl := beq_eq hbe
          cases hi
          exact ⟨d, hd, hl⟩
        · exact hG.T.gs i g' tg' hi
    · exact h.elim
end
end Go.Proofs.YtaeoibnbbpgajaaDoor.Sx
