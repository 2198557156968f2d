/- Symbolic execution, twentieth text: code is evaluated rightly. -/
import Derived.Test.YtaeoibnbbpgajaaDoorSxS
namespace Go.Proofs.YtaeoibnbbpgajaaDoor.Sx

/-- How the model leaves code. -/
def Ex.out (η : Names) : Ex → Exit
  | .normal => .normal
  | .exit id => .exit id
  | .ret => .ret
  | .panic x => .panic [{ v := den η x, recovered := false }]

theorem lookG_nil {η : Names} {st : St} {a : Act} (h : HoldT [] η st a) (j : Nat) : lookG st.gs j = none := by
  cases hg : lookG st.gs j with
  | none => rfl
  | some p =>
    obtain ⟨d, hd, _⟩ := h.gs j p.1 p.2 hg
    cases hd

section
variable {P : Program} {T : Tbl} {B : Base} {η : Names} {m : Mem} {st : St} {a : Act} {w : World}

theorem Good.any (h : Good B [] η m st a w) (ops : List Oper) : Good B ops η m st a w :=
  ⟨h.H, ⟨h.T.sz, h.T.df, h.T.sl, fun j g tg hl => by rw [lookG_nil h.T j] at hl; cases hl⟩⟩
theorem Good.bare {ops : List Oper} (h : Good B ops η m st a w) : Good B [] η m ⟨st.sz, [], [], st.h, st.nx⟩ a w :=
  ⟨h.H, ⟨h.T.sz, h.T.df, fun k tag x hl => (by cases hl), fun j g tg hl => (by cases hl)⟩⟩

theorem memN_sound {k : Nat} : ∀ {l : List Nat}, memN k l = true → k ∈ l
  | [], h => by cases h
  | n :: r, h => by
    simp only [memN] at h
    split at h
    · rename_i hb
      obtain rfl := beq_eq hb
      exact .head _
    · exact .tail _ (memN_sound h)

theorem clean_sound {lv : List Nat} {K : List Slot → Prop} : ∀ {t : List Slot} {seen : List Nat}, clean lv seen t K →
    ∃ t', K t' ∧ ∀ k tag x, look t' k = some (tag, x) → tag = [] ∧ k ∉ seen ∧ look t k = some ([], x)
  | [], _, h => ⟨[], h, fun _ _ _ h => by cases h⟩
  | ⟨n, tag, x⟩ :: r, seen, h => by
    simp only [clean] at h
    cases hm0 : memN n seen with
    | true =>
      rw [hm0] at h
      have hm := memN_sound hm0
      obtain ⟨t', hk, hl⟩ := clean_sound h
      refine ⟨t', hk, fun k tag x h => ?_⟩
      obtain ⟨h1, h2, h3⟩ := hl k tag x h
      refine ⟨h1, h2, ?_⟩
      simp only [look]
      have : n ≠ k := fun e => h2 (by subst e; exact hm)
      rw [beq_ne this]
      exact h3
    | false =>
      rw [hm0] at h
      simp only at h
      have drop : clean lv (n :: seen) r K → ∃ t', K t' ∧ ∀ k tag' y, look t' k = some (tag', y) → tag' = [] ∧ k ∉ seen ∧ look (⟨n, tag, x⟩ :: r) k = some ([], y) := by
        intro h
        obtain ⟨t', hk, hl⟩ := clean_sound h
        refine ⟨t', hk, fun k tag x h => ?_⟩
        obtain ⟨h1, h2, h3⟩ := hl k tag x h
        simp only [List.mem_cons, not_or] at h2
        refine ⟨h1, h2.2, ?_⟩
        simp only [look]
        rw [beq_ne (Ne.symm h2.1)]
        exact h3
      split at h
      · obtain ⟨t', hk, hl⟩ := clean_sound h
        refine ⟨_, hk, fun k tag y h => ?_⟩
        simp only [look] at h
        split at h
        · rename_i hb
          obtain rfl := beq_eq hb
          cases h
          refine ⟨rfl, ?_, by simp [look, Nat.beq_refl]⟩
          intro hs
          have : ∀ {l : List Nat}, n ∈ l → memN n l = true := by
            intro l hl
            induction l with
            | nil => cases hl
            | cons z r ih =>
              simp only [memN]
              cases hz : Nat.beq z n with
              | true => rfl
              | false =>
                rcases List.mem_cons.1 hl with rfl | hl
                · rw [Nat.beq_refl] at hz; cases hz
                · exact ih hl
          rw [this hs] at hm0
          cases hm0
        · rename_i hb
          obtain ⟨h1, h2, h3⟩ := hl k tag y h
          simp only [List.mem_cons, not_or] at h2
          refine ⟨h1, h2.2, ?_⟩
          simp only [look]
          rw [beq_ne (Ne.symm h2.1)]
          exact h3
      · exact drop h

/-- What is to be shown of loops and of regions in no order. -/
def LPOk (P : Program) (B : Base) (LP : Code → St → Mem → (Ex → St → Mem → Prop) → Prop) : Prop := ∀ (c : Code) (st : St) (m : Mem) (K : Ex → St → Mem → Prop), LP c st m K →
  ∀ (η : Names) (a : Act) (w : World) (Q : Exit → Act → World → Prop), Good B [] η m st a w → (∀ e η st m a w, K e st m → Good B [] η m st a w → Q (e.out η) a w) → (Code.loop c).wp P Q a w
def DPOk (P : Program) (B : Base) (DP : List Oper → St → Mem → (Ex → St → Mem → Prop) → Prop) : Prop := ∀ (id : Nat) (ops : Array Oper) (st : St) (m : Mem) (K : Ex → St → Mem → Prop), DP ops.toList st m K →
  ∀ (η : Names) (a : Act) (w : World) (Q : Exit → Act → World → Prop), Good B [] η m st a w → (∀ e η st m a w, K e st m → Good B [] η m st a w → Q (e.out η) a w) → (Code.region id ops true).wp P Q a w

theorem exec_sound (hT : TOk P T) {CP : CallP} (hCP : CPOk P CP) {LP : Code → St → Mem → (Ex → St → Mem → Prop) → Prop} (hLP : LPOk P B LP) {DP : List Oper → St → Mem → (Ex → St → Mem → Prop) → Prop} (hDP : DPOk P B DP) {lv : List Nat} :
    ∀ {c : Code} {K : Ex → St → Mem → Prop} {st : St} {m : Mem} {η : Names} {a : Act} {w : World} {Q : Exit → Act → World → Prop}, exec T CP LP DP lv c K st m → Good B [] η m st a w →
      (∀ e η st m a w, K e st m → Good B [] η m st a w → Q (e.out η) a w) → c.wp P Q a w := by
  intro c
  induction c with
  | skip => intro K st m η a w Q h hG hK; exact wp_skip (hK _ _ _ _ _ _ h hG)
  | label l => intro K st m η a w Q h hG hK; exact wp_label (hK _ _ _ _ _ _ h hG)
  | exit id => intro K st m η a w Q h hG hK; exact wp_exit (hK _ _ _ _ _ _ h hG)
  | ret => intro K st m η a w Q h hG hK; exact wp_ret (hK _ _ _ _ _ _ h hG)
  | seq x y ihx ihy =>
    intro K st m η a w Q h hG hK
    simp only [exec] at h
    refine wp_seq (ihx h hG fun e η st m a w h hG => ?_)
    cases e with
    | normal => exact ihy h hG hK
    | exit id => exact hK _ _ _ _ _ _ h hG
    | ret => exact hK _ _ _ _ _ _ h hG
    | panic x => exact hK _ _ _ _ _ _ h hG
  | block id x ih =>
    intro K st m η a w Q h hG hK
    simp only [exec] at h
    refine wp_block (ih h hG fun e η st m a w h hG => ?_)
    cases e with
    | normal => exact hK _ _ _ _ _ _ h hG
    | exit i =>
      simp only at h
      simp only [Ex.out, Exit.inBlock]
      split at h
      · rename_i hb
        rw [if_pos (beq_eq hb)]
        exact hK _ _ _ _ _ _ h hG
      · rename_i hb
        rw [if_neg (fun e => by subst e; rw [Nat.beq_refl] at hb; cases hb)]
        exact hK _ _ _ _ _ _ h hG
    | ret => exact hK _ _ _ _ _ _ h hG
    | panic x => exact hK _ _ _ _ _ _ h hG
  | cond c x y ihx ihy =>
    intro K st m η a w Q h hG hK
    simp only [exec] at h
    obtain ⟨v, h, hv⟩ := argAt_sound hG.T h
    have hv := hv rfl
    split at h
    case h_2 => exact h.elim
    exact wp_cond_split hv (fun hb => ihx (h.1 hb) hG hK) (fun hb => ihy (h.2 hb) hG hK)
  | region id ops draw =>
    intro K st m η a w Q h hG hK
    simp only [exec] at h
    split at h
    · refine wp_region_list (runL_sound hT hCP (fun η st m a w h hG => ?_) (fun x η st m a w h hG => ?_) h (hG.any _))
      · obtain ⟨t, h, ht⟩ := clean_sound h
        obtain ⟨sz, t0, gs, hp, nx⟩ := st
        refine hK _ η _ _ _ _ h ⟨hG.H, ⟨hG.T.sz, hG.T.df, fun k tag x hl => ?_, fun j g tg hl => by cases hl⟩⟩
        obtain ⟨rfl, _, hl'⟩ := ht k tag x hl
        exact hG.T.sl k [] x hl'
      · obtain ⟨sz, t0, gs, hp, nx⟩ := st
        exact hK _ η _ _ _ _ h hG.bare
    · exact hDP _ _ _ _ _ h _ _ _ _ hG hK
  | loop c ih =>
    intro K st m η a w Q h hG hK
    exact hLP _ _ _ _ h _ _ _ _ hG hK
  | _ => intro K st m η a w Q h hG hK; exact h.elim
end
end Go.Proofs.YtaeoibnbbpgajaaDoor.Sx
