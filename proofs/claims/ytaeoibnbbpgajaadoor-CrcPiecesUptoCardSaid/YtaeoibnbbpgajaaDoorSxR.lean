/- Symbolic execution, eighteenth text: a region in the text's order is evaluated rightly. -/
import Derived.Test.YtaeoibnbbpgajaaDoorSxQ
namespace Go.Proofs.YtaeoibnbbpgajaaDoor.Sx

theorem settleTag_sound {gs : Gs} {j : Nat} {b : Bool} {tj : Tag} (hj : lookG gs j = some (b, tj)) : ∀ {tag : Tag}, tagB gs tag = (match settleTag j b tag with | some tag' => tagB gs tag' | none => false)
  | [] => rfl
  | (i, u) :: r => by
    have ih := settleTag_sound hj (tag := r)
    simp only [settleTag]
    by_cases hb : Nat.beq i j = true
    · obtain rfl := beq_eq hb
      simp only [Nat.beq_refl]
      simp only [tagB, hj]
      cases u <;> cases b <;> simp [ih]
    · have hb' : Nat.beq i j = false := by cases h : Nat.beq i j with | true => exact absurd h hb | false => rfl
      simp only [hb']
      simp only [tagB]
      rw [ih]
      cases settleTag j b r with
      | none => simp
      | some tag' => simp [tagB]

theorem settle_sound {j : Nat} {b : Bool} {K : List Slot → Prop} : ∀ {t : List Slot}, settle j b t K →
    ∃ t', K t' ∧ ∀ k, look t' k = (look t k).map fun p => match settleTag j b p.1 with | some tag' => (tag', p.2) | none => ([], .v undef)
  | [], h => ⟨[], h, fun _ => rfl⟩
  | ⟨n, tag, x⟩ :: r, h => by
    simp only [settle] at h
    obtain ⟨r', h, hr⟩ := settle_sound h
    split at h
    · rename_i tag' hs
      refine ⟨_, h, fun k => ?_⟩
      simp only [look]
      by_cases hb : Nat.beq n k = true
      · simp [hb, hs]
      · have hb' : Nat.beq n k = false := by cases h : Nat.beq n k with | true => exact absurd h hb | false => rfl
        simp only [hb', hr]
    · rename_i hs
      refine ⟨_, h, fun k => ?_⟩
      simp only [look]
      by_cases hb : Nat.beq n k = true
      · simp [hb, hs]
      · have hb' : Nat.beq n k = false := by cases h : Nat.beq n k with | true => exact absurd h hb | false => rfl
        simp only [hb', hr]
theorem settleG_sound {j : Nat} {b : Bool} {K : Gs → Prop} : ∀ {gs : Gs}, settleG j b gs K →
    ∃ gs', K gs' ∧ ∀ i g' tag', lookG gs' i = some (g', tag') → ∃ g tag, lookG gs i = some (g, tag) ∧ settleTag j b tag = some tag' ∧ g' = if i = j then b else g
  | [], h => ⟨[], h, fun _ _ _ h => by cases h⟩
  | (n, g, tag) :: r, h => by
    simp only [settleG] at h
    obtain ⟨r', h, hr⟩ := settleG_sound h
    split at h
    · rename_i tag' hs
      have key : ∀ (g0 : Bool), (g0 = if n = j then b else g) → ∀ i g' t', lookG ((n, g0, tag') :: r') i = some (g', t') → ∃ g1 tag1, lookG ((n, g, tag) :: r) i = some (g1, tag1) ∧ settleTag j b tag1 = some t' ∧ g' = if i = j then b else g1 := by
        intro g0 hg0 i g' t' hl
        simp only [lookG] at hl ⊢
        by_cases hb : Nat.beq n i = true
        · simp only [hb, Option.some.injEq, Prod.mk.injEq] at hl ⊢
          obtain ⟨rfl, rfl⟩ := hl
          obtain rfl := beq_eq hb
          exact ⟨g, tag, ⟨rfl, rfl⟩, hs, hg0⟩
        · have hb' : Nat.beq n i = false := by cases h : Nat.beq n i with | true => exact absurd h hb | false => rfl
          simp only [hb'] at hl ⊢
          exact hr i g' t' hl
      split at h
      · rename_i hb
        exact ⟨_, h, key b (by rw [if_pos (beq_eq hb)])⟩
      · rename_i hb
        exact ⟨_, h, key g (by rw [if_neg (fun e => by subst e; rw [Nat.beq_refl] at hb; cases hb)])⟩
    · rename_i hs
      split at h
      · rename_i hn
        refine ⟨_, h, fun i g' t' hl => ?_⟩
        simp only [lookG]
        by_cases hb : Nat.beq n i = true
        · obtain rfl := beq_eq hb
          rw [hn] at hl
          cases hl
        · have hb' : Nat.beq n i = false := by cases h : Nat.beq n i with | true => exact absurd h hb | false => rfl
          simp only [hb']
          exact hr i g' t' hl
      · exact h.elim

theorem lastT_mem {j : Nat} {w : Bool} : ∀ {tag : Tag}, lastT tag = some (j, w) → ∀ {gs : Gs} {g : Bool} {tg : Tag}, lookG gs j = some (g, tg) → tagB gs tag = true → g = w
  | [], h, _, _, _, _, _ => by cases h
  | [x], h, gs, g, tg, hl, ht => by
    simp only [lastT, Option.some.injEq] at h
    subst h
    simp only [tagB, hl, Bool.and_true, beq_iff_eq] at ht
    exact ht
  | x :: y :: r, h, gs, g, tg, hl, ht => by
    simp only [tagB, Bool.and_eq_true] at ht
    exact lastT_mem (tag := y :: r) h hl (by simp only [tagB, Bool.and_eq_true]; exact ht.2)

section
variable {P : Program} {T : Tbl} (hT : TOk P T) {B : Base} {ops : Array Oper} {η : Names} {m : Mem} {st : St} {a : Act} {w : World}

theorem chk_out {t : List Slot} {gs : Gs} {K : Prop} (h : chk t gs K) : tagsIn gs t = true ∧ tagsInG gs gs = true ∧ K := by
  unfold chk at h
  split at h
  · rename_i hb
    simp only [Bool.and_eq_true] at hb
    exact ⟨hb.1, hb.2, h⟩
  · exact h.elim

/-- Behind a decided test all that was known is known. -/
theorem settle_good {l : List Oper} (hG : Good B l η m st a w) {j : Nat} {b : Bool} {tj : Tag} (hj : lookG st.gs j = some (b, tj)) {t' : List Slot} {gs' : Gs}
    (ht : ∀ k, look t' k = (look st.t k).map fun p => match settleTag j b p.1 with | some tag' => (tag', p.2) | none => ([], .v undef))
    (hg : ∀ i g' tag', lookG gs' i = some (g', tag') → ∃ g tag, lookG st.gs i = some (g, tag) ∧ settleTag j b tag = some tag' ∧ g' = if i = j then b else g)
    (hin : tagsIn gs' t' = true) : Good B l η m ⟨st.sz, t', gs', st.h, st.nx⟩ a w ∧ (∀ tag, tagIn gs' tag = true → tagB gs' tag = tagB st.gs tag) := by
  have hsub : ∀ i g' tag', lookG gs' i = some (g', tag') → ∃ tg, lookG st.gs i = some (g', tg) := by
    intro i g' tag' hi
    obtain ⟨g, tag, hl, _, he⟩ := hg i g' tag' hi
    by_cases hij : i = j
    · subst hij
      rw [hj] at hl
      cases hl
      simp only [if_true] at he
      subst he
      exact ⟨_, hj⟩
    · rw [if_neg hij] at he
      subst he
      exact ⟨_, hl⟩
  have hsame : ∀ tag, tagIn gs' tag = true → tagB gs' tag = tagB st.gs tag := fun tag h => tagB_in hsub h
  refine ⟨⟨hG.H, ⟨hG.T.sz, hG.T.df, fun k tag x hl => ?_, fun i g' tag' hl => ?_⟩⟩, hsame⟩
  · have hi := hin
    rw [hsame tag (tagsIn_look hin hl)]
    rw [ht] at hl
    cases hs : look st.t k with
    | none => rw [hs] at hl; cases hl
    | some p =>
      obtain ⟨tag0, x0⟩ := p
      rw [hs] at hl
      have h0 := hG.T.sl k tag0 x0 hs
      rw [settleTag_sound hj (tag := tag0)] at h0
      simp only [Option.map_some] at hl
      cases hst : settleTag j b tag0 with
      | some tag1 =>
        rw [hst] at hl h0
        cases hl
        exact h0
      | none =>
        rw [hst] at hl h0
        cases hl
        simpa [tagB, den] using h0
  · obtain ⟨g, tag, hl0, hst, he⟩ := hg i g' tag' hl
    obtain ⟨d, hd, hld⟩ := hG.T.gs i g tag hl0
    refine ⟨d, hd, ?_⟩
    rw [ht, hld]
    simp only [Option.map_some, hst]
    by_cases hij : i = j
    · subst hij
      rw [hj] at hl0
      cases hl0
      simp only [if_true] at he
      rw [he]
    · rw [if_neg hij] at he
      rw [he]

theorem sideV_sound {l : List Oper} (hT' : HoldT l η st a) {tag : Tag} {kc : Nat} {u : Bool} {x : Operand} {K : SV → Prop} {tgc : Tag} {g : Bool} (hc : look st.t kc = some (tgc, .b g))
    (h : sideV l st tag kc u x K) : ∃ v, K v ∧ (tagB st.gs tag = true → g = u → a.eval x = den η v) := by
  have side : ∀ {tg : Tag}, sideOk l st.gs tag kc u tg = true → tagB st.gs tag = true → g = u → tagB st.gs tg = true := by
    intro tg
    induction tg with
    | nil => intros; rfl
    | cons p r ih =>
      obtain ⟨j, v⟩ := p
      intro hs htag hgu
      simp only [sideOk, Bool.and_eq_true, Bool.or_eq_true] at hs
      simp only [tagB, Bool.and_eq_true]
      refine ⟨?_, ih hs.2 htag hgu⟩
      rcases hs.1 with hm | ⟨hv, hd⟩
      · exact memT_sound hm htag
      · split at hd
        · rename_i d p hdst hlk
          obtain ⟨g0, tg0⟩ := p
          obtain rfl := beq_eq hd
          obtain ⟨d', hd', hl'⟩ := hT'.gs j g0 tg0 hlk
          rw [hdst] at hd'
          cases hd'
          rw [hc] at hl'
          cases hl'
          rw [hlk]
          simp only [beq_iff_eq] at hv ⊢
          rw [hgu, hv]
        · cases hd
  cases x with
  | tmp k =>
    simp only [sideV] at h
    split at h
    · rename_i tg v hl
      split at h
      · rename_i hs
        refine ⟨v, h, fun htag hgu => ?_⟩
        have := hT'.sl k tg v hl
        rw [side hs htag hgu] at this
        simp [Act.eval, this]
      · exact h.elim
    · exact h.elim
  | const v =>
    simp only [sideV, force_eq] at h
    exact ⟨_, h, fun _ _ => (den_ofV η v).symm⟩
  | global g => exact h.elim
  | func f => exact h.elim

theorem pickV_sound {l : List Oper} (hT' : HoldT l η st a) {tag : Tag} {c x y : Operand} {K : SV → Prop} (h : pickV l st tag c x y K) {o : Oper} (ho : o.op = .pick c x y) :
    ∃ v, K v ∧ ∀ w : World, (tagB st.gs tag = true → (execOp a.eval o).run P w = .ok (.value (den η v)) w) := by
  cases c with
  | tmp kc =>
    simp only [pickV] at h
    split at h
    · rename_i tgc v hc
      split at h
      · rename_i g hsub
        obtain ⟨p, h, hp⟩ := sideV_sound hT' hc h
        obtain ⟨q, h, hq⟩ := sideV_sound hT' hc h
        split at h
        · rename_i bp bq
          refine ⟨_, h, fun w htag => ?_⟩
          have hcv : a.eval (.tmp kc) = .bool g := by
            have := hT'.sl kc tgc _ hc
            rw [subT_sound hsub htag] at this
            simp [Act.eval, this, den]
          have hp := hp htag
          have hq := hq htag
          obtain ⟨dst, op, ty, pos, after, guard⟩ := o
          simp only at ho
          subst ho
          simp only [execOp, hcv, asBool, Sem.run_bind, Sem.run_pure, Result.andThen_ok, den]
          cases g with
          | true => simp only [if_true, hp rfl, den]
          | false => simp only [Bool.false_eq_true, if_false, hq rfl, den]
        · exact h.elim
      · exact h.elim
    · exact h.elim
  | const v => exact h.elim
  | global g => exact h.elim
  | func f => exact h.elim
end
end Go.Proofs.YtaeoibnbbpgajaaDoor.Sx
