/- Symbolic execution, sixth text: the quiet operations are evaluated rightly, part one: operands, arithmetic, parts. -/
import Derived.Test.YtaeoibnbbpgajaaDoorSxE
namespace Go.Proofs.YtaeoibnbbpgajaaDoor.Sx

section
variable {ops : List Oper} {η : Names} {st : St} {a : Act}

theorem argAt_sound (ht : HoldT ops η st a) {tag : Tag} {x : Operand} {K : SV → Prop} (h : argAt st.t tag x K) :
    ∃ v, K v ∧ (tagB st.gs tag = true → a.eval x = den η v) := by
  cases x with
  | tmp k =>
    simp only [argAt] at h
    split at h
    · rename_i tg v hl
      split at h
      · rename_i hs
        refine ⟨v, h, fun htag => ?_⟩
        have := ht.sl k tg v hl
        rw [subT_sound hs htag] at this
        simp [Act.eval, this]
      · exact h.elim
    · exact h.elim
  | const v =>
    simp only [argAt, force_eq] at h
    exact ⟨_, h, fun _ => (den_ofV η v).symm⟩
  | global g => exact ⟨_, h, fun _ => rfl⟩
  | func f => exact ⟨_, h, fun _ => rfl⟩

theorem argsAt_sound (ht : HoldT ops η st a) {tag : Tag} : ∀ {xs : List Operand} {K : List SV → Prop}, argsAt st.t tag xs K →
    ∃ vs, K vs ∧ (tagB st.gs tag = true → xs.map a.eval = dent η vs)
  | [], K, h => ⟨[], h, fun _ => rfl⟩
  | x :: r, K, h => by
    simp only [argsAt] at h
    obtain ⟨v, h, hv⟩ := argAt_sound ht h
    obtain ⟨vs, h, hvs⟩ := argsAt_sound ht h
    exact ⟨v :: vs, h, fun htag => by simp only [List.map_cons, dent, hv htag, hvs htag]⟩
theorem optArg_sound (ht : HoldT ops η st a) {tag : Tag} {x : Option Operand} {K : Option SV → Prop} (h : optArg st.t tag x K) :
    ∃ v, K v ∧ (tagB st.gs tag = true → x.map a.eval = v.map (den η)) := by
  cases x with
  | none => exact ⟨none, h, fun _ => rfl⟩
  | some x =>
    obtain ⟨v, h, hv⟩ := argAt_sound ht h
    exact ⟨some v, h, fun htag => by simp [hv htag]⟩
theorem pairs_sound (ht : HoldT ops η st a) {tag : Tag} : ∀ {ps : List (Nat × Operand)} {K : List (Nat × SV) → Prop}, pairs st.t tag ps K →
    ∃ vs : List (Nat × SV), K vs ∧ (tagB st.gs tag = true → ps.map (fun p => (p.1, a.eval p.2)) = vs.map fun p => (p.1, den η p.2))
  | [], K, h => ⟨[], h, fun _ => rfl⟩
  | (i, x) :: r, K, h => by
    simp only [pairs] at h
    obtain ⟨v, h, hv⟩ := argAt_sound ht h
    obtain ⟨vs, h, hvs⟩ := pairs_sound ht h
    exact ⟨(i, v) :: vs, h, fun htag => by simp only [List.map_cons, hv htag, hvs htag]⟩
end

section
variable (η : Names) {P : Program} {w : World} {C : Prop → Prop} {Tg : Prop}

theorem sameKind_eq {k k' : IntKind} (h : sameKind k k' = true) : k = k' := by cases k <;> cases k' <;> first | rfl | cases h

theorem intOp_sound {op : BinOp} {k : IntKind} {a b : Int} {K : SV → Prop} (hC : ∀ c, C c → Tg → c) (h : intOp op k a b C K) :
    ∃ x, K x ∧ ∀ w : World, (Tg → ∀ t, (binOp op t (.int k a) (.int k b)).run P w = .ok (den η x) w) := by
  cases op <;> simp only [intOp] at h
  case add => exact ⟨_, h, fun w _ t => by rw [binOp_add]; rfl⟩
  case sub => exact ⟨_, h, fun w _ t => by rw [binOp_sub]; rfl⟩
  case mul => exact ⟨_, h, fun w _ t => by rw [binOp_mul]; rfl⟩
  case and => exact ⟨_, h, fun w _ t => by rw [binOp_and]; rfl⟩
  case or => exact ⟨_, h, fun w _ t => by rw [binOp_or]; rfl⟩
  case xor => exact ⟨_, h, fun w _ t => by rw [binOp_xor]; rfl⟩
  case andNot => exact ⟨_, h, fun w _ t => by rw [binOp_andNot]; rfl⟩
  case eql => exact ⟨_, h, fun w _ t => by rw [binOp_eql]; rfl⟩
  case neq => exact ⟨_, h, fun w _ t => by rw [binOp_neq]; rfl⟩
  case lss => exact ⟨_, h, fun w _ t => by rw [binOp_lss]; rfl⟩
  case leq => exact ⟨_, h, fun w _ t => by rw [binOp_leq]; rfl⟩
  case gtr => exact ⟨_, h, fun w _ t => by rw [binOp_gtr]; rfl⟩
  case geq => exact ⟨_, h, fun w _ t => by rw [binOp_geq]; rfl⟩
  case quo => exact ⟨_, h.2, fun w ht t => by have hb := hC _ h.1 ht; rw [binOp_quo]; simp only [Op.intDiv, if_neg hb]; rfl⟩
  case rem => exact ⟨_, h.2, fun w ht t => by have hb := hC _ h.1 ht; rw [binOp_rem]; simp only [Op.intDiv, if_neg hb]; rfl⟩

theorem shiftOp_sound {op : BinOp} {k k' : IntKind} {a b : Int} {K : SV → Prop} (hC : ∀ c, C c → Tg → c) (h : shiftOp op k a b C K) :
    ∃ x, K x ∧ ∀ w : World, (Tg → ∀ t, (binOp op t (.int k a) (.int k' b)).run P w = .ok (den η x) w) := by
  cases op <;> simp only [shiftOp] at h
  case shl => exact ⟨_, h.2, fun w ht t => by
    have hb := hC _ h.1 ht
    have hn : ¬ b < 0 := by omega
    rw [binOp_shl]; simp only [Op.shift, if_neg hn]; rfl⟩
  case shr => exact ⟨_, h.2, fun w ht t => by
    have hb := hC _ h.1 ht
    have hn : ¬ b < 0 := by omega
    rw [binOp_shr]; simp only [Op.shift, if_neg hn]; rfl⟩

theorem strOp_sound {op : BinOp} {a b : ByteArray} {K : SV → Prop} (hC : ∀ c, C c → Tg → c) (h : strOp op a b C K) :
    ∃ x, K x ∧ ∀ w : World, (Tg → ∀ t, (binOp op t (.string a) (.string b)).run P w = .ok (den η x) w) := by
  cases op <;> simp only [strOp] at h
  case add => exact ⟨_, h.2, fun w ht t => by
    have hb := hC _ h.1 ht
    have hn : ¬ ((a.size + b.size : Nat) : Int) > IntKind.i64.max := by
      rw [show IntKind.i64.max = 9223372036854775807 from rfl]; omega
    rw [binOp_string_add]; simp only [Op.stringOp, if_neg hn]; rfl⟩
  case eql => exact ⟨_, h, fun w _ t => by rw [binOp_string_eql]; rfl⟩
  case neq => exact ⟨_, h, fun w _ t => by rw [binOp_string_neq]; rfl⟩
  case lss => exact ⟨_, h, fun w _ t => by rw [binOp_string_lss]; rfl⟩
  case leq => exact ⟨_, h, fun w _ t => by simp only [binOp, Op.stringOp]; rfl⟩
  case gtr => exact ⟨_, h, fun w _ t => by simp only [binOp, Op.stringOp]; rfl⟩
  case geq => exact ⟨_, h, fun w _ t => by simp only [binOp, Op.stringOp]; rfl⟩

theorem pointee_of {P : Program} {t e : TypeId} (h : P.underlying t = some (.pointer e)) : P.underlying t = some (.pointer (P.pointee t)) := by
  have : P.pointee t = e := by simp [Program.pointee, h]
  rw [this]; exact h

theorem binOpV_sound {h0 : Heap} {d : TypeDesc} {t : TypeId} (hd : P.underlying t = some d) {op : BinOp} {x y : SV} {K : SV → Prop} (hC : ∀ c, C c → Tg → c) (h : binOpV h0 d op x y C K) :
    ∃ v, K v ∧ ∀ w : World, (∀ n e cs, lookH h0 n = some (.st e cs) → (η n).A.isSome = true) → (Tg → (binOp op t (den η x) (den η y)).run P w = .ok (den η v) w) := by
  unfold binOpV at h
  split at h
  · split at h
    · obtain ⟨v, h, hv⟩ := shiftOp_sound η (P := P) hC h
      exact ⟨v, h, fun w _ ht => hv w ht t⟩
    · split at h
      · rename_i hk
        obtain rfl := sameKind_eq hk
        obtain ⟨v, h, hv⟩ := intOp_sound η (P := P) hC h
        exact ⟨v, h, fun w _ ht => hv w ht t⟩
      · exact h.elim
  · obtain ⟨v, h, hv⟩ := strOp_sound η (P := P) hC h
    exact ⟨v, h, fun w _ ht => hv w ht t⟩
  · split at h
    · exact ⟨_, h, fun w _ _ => run_eql_bool (P := P) w t _ _ hd⟩
    · exact ⟨_, h, fun w _ _ => run_neq_bool (P := P) w t _ _ hd⟩
    · exact h.elim
  · split at h
    · rename_i hl
      exact ⟨_, h, fun w hA _ => (run_eql_pointer_nil (P := P) w t _ (pointee_of hd)).trans (by rw [Option.isNone_map, ← Option.not_isSome, hA _ _ _ hl]; rfl)⟩
    · rename_i hl
      exact ⟨_, h, fun w hA _ => (run_neq_pointer_nil (P := P) w t _ (pointee_of hd)).trans (by rw [Option.isNone_map, ← Option.not_isSome, hA _ _ _ hl]; rfl)⟩
    · exact h.elim
  · split at h
    · exact ⟨_, h, fun w _ _ => run_eql_pointer_nil (P := P) w t none (pointee_of hd)⟩
    · exact ⟨_, h, fun w _ _ => run_neq_pointer_nil (P := P) w t none (pointee_of hd)⟩
    · exact h.elim
  · exact h.elim

theorem unOpV_sound {op : UnOp} {x : SV} {K : SV → Prop} (h : unOpV op x K) :
    ∃ v, K v ∧ ∀ w : World, (Op.unary op (den η x)).run P w = .ok (den η v) w := by
  unfold unOpV at h
  split at h
  · exact ⟨_, h, fun w => by simp only [den, Op.unary]; rfl⟩
  · exact ⟨_, h, fun w => by simp only [den, Op.unary, Op.intArith]; rfl⟩
  · exact ⟨_, h, fun w => by simp only [den, Op.unary]; rw [intBits_xor]; rfl⟩
  · exact h.elim
end
end Go.Proofs.YtaeoibnbbpgajaaDoor.Sx
