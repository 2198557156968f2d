/- Symbolic execution: equality of structs and arrays, and of a slice with nil, is evaluated rightly. -/
import Derived.Test.YtaeoibnbbpgajaaDoorSxJ
import Derived.ChangeKeysEq
import Derived.Laws.StructEq
import Derived.Lib.LazyBuf
namespace Go.Proofs.YtaeoibnbbpgajaaDoor.Sx

theorem beq_yes {b : Bool} {p : Prop} (h : b = true ↔ p) : b = yes p := by
  cases hy : yes p with
  | true => exact h.2 (yes_true.1 hy)
  | false =>
    cases b with
    | true => exact absurd (h.1 rfl) (yes_false.1 hy)
    | false => rfl

section
variable {P : Program} {T : Tbl} {η : Names} {m : Mem} {w : World} {st : St}

theorem eqGuard_sound {h0 : Heap} {d : TypeDesc} {op : BinOp} {x y : SV} {C : Prop → Prop} {K : SV → Prop} {t : TypeId} {ox oy : Operand} (h : binOpV h0 d op x y C K) :
    (eqGuard op t ox oy (den η x) (den η y)).run P w = .ok () w := by
  unfold binOpV at h
  split at h
  · cases op <;> simp [eqGuard, den]
  · cases op <;> simp [eqGuard, den]
  · cases op <;> simp [eqGuard, den]
  · cases op <;> simp [eqGuard, den]
  · cases op <;> simp [eqGuard, den]
  · exact h.elim

theorem st_A {h0 : Heap} (hH : HQ η m h0 w) : ∀ n e cs, lookH h0 n = some (.st e cs) → (η n).A.isSome = true := fun n e cs hl => by
  obtain ⟨b, hA, _⟩ := (hH.ck n _ hl).2
  rw [hA]; rfl


theorem eqFs_sound (hT : TOk P T) {d : Nat} {ev : TypeId → SV → SV → (Prop → Prop) → Prop}
    (hev : ∀ t x y K, ev t x y K → ∃ p, K p ∧ ∀ w : World, (Op.equalIn d t (den η x) (den η y)).run P w = .ok (yes p) w) :
    ∀ {l : List Field} {cs ds : List SV} {K : Prop → Prop}, (∀ f ∈ l, f.name ≠ "_") → eqFs T ev l cs ds K → ∃ p, K p ∧ ∀ w : World, (Op.eqFields d (dens η cs).toArray (dens η ds).toArray l).run P w = .ok (yes p) w
  | [], cs, ds, K, _, h => ⟨True, h, fun w => by rw [yes_true.2 trivial]; rfl⟩
  | f :: r, cs, ds, K, hn, h => by
    simp only [eqFs] at h
    split at h
    · rename_i tf htf
      obtain ⟨x, h, hx⟩ := run_part_get (η := η) hT htf h
      obtain ⟨y, h, hy⟩ := run_part_get (η := η) hT htf h
      obtain ⟨p, h, hp⟩ := hev _ _ _ _ h
      obtain ⟨q, h, hq⟩ := eqFs_sound hT hev (fun g hg => hn g (.tail _ hg)) h
      refine ⟨_, h, fun w => ?_⟩
      have hne : f.name ≠ "_" := hn f (.head _)
      simp only [Op.eqFields, ne_eq, hne, not_false_eq_true, if_true, Sem.run_bind, hx w, hy w, hp w, Result.andThen_ok]
      by_cases hp' : p
      · rw [yes_true.2 hp']
        simp only [Bool.not_true, Bool.false_eq_true, if_false, hq w]
        congr 1
        exact (beq_yes (yes_true.trans ⟨fun h => ⟨hp', h⟩, fun h => h.2⟩))
      · rw [yes_false.2 hp']
        simp only [Bool.not_false, if_true, Sem.run_pure]
        congr 1
        exact (yes_false.2 fun h => hp' h.1).symm
    · exact h.elim

theorem eqItems_ints {d : Nat} {e : TypeId} {te : TI} (hT : TOk P T) (hte : T.at e = some te) {k0 : IntKind} (hd : te.d = .int k0) (n : Nat) (k : IntKind) (f g : Nat → Int) (w : World) :
    ∀ is : List Nat, (∀ i ∈ is, i < n) → ∃ b : Bool, (Op.eqItems (d + 1) e 1 (ints n k f).toArray (ints n k g).toArray is).run P w = .ok b w ∧ (b = true ↔ ∀ i ∈ is, f i = g i)
  | [], _ => ⟨true, rfl, by simp⟩
  | i :: is, hi => by
    obtain ⟨b, hb, hiff⟩ := eqItems_ints (d := d) hT hte hd n k f g w is fun j hj => hi j (.tail _ hj)
    have hlt := hi i (.head _)
    have hag := run_isAgg hT (w := w) hte
    rw [hd] at hag
    have hu := (hT e te hte).1
    rw [hd] at hu
    have part : ∀ h : Nat → Int, (part e (ints n k h).toArray (i * 1)).run P w = .ok (.int k (h i)) w := by
      intro h
      simp only [Go.part, Sem.run_bind, hag, aggD, Result.andThen_ok, Bool.false_eq_true, if_false, Nat.mul_one]
      simp [ints, hlt]
    simp only [Op.eqItems, Sem.run_bind, part, Result.andThen_ok, run_equalIn_int w d e k k0 _ _ hu]
    by_cases h : f i = g i
    · refine ⟨b, ?_, ?_⟩
      · have : (f i == g i) = true := by simpa using h
        simp only [this, Bool.not_true, Bool.false_eq_true, if_false, hb]
      · rw [hiff]
        constructor
        · intro h1 j hj
          rcases List.mem_cons.1 hj with rfl | hj
          · exact h
          · exact h1 j hj
        · intro h1 j hj
          exact h1 j (.tail _ hj)
    · refine ⟨false, ?_, ?_⟩
      · have : (f i == g i) = false := by simpa using h
        simp only [this, Bool.not_false, if_true, Sem.run_pure]
      · constructor
        · intro h1; cases h1
        · intro h1; exact absurd (h1 i (.head _)) h

theorem eqV_sound (hT : TOk P T) : ∀ {n : Nat} {t : TypeId} {x y : SV} {K : Prop → Prop}, eqV T n t x y K → ∀ d, ∃ p, K p ∧ ∀ w : World, (Op.equalIn (n + d) t (den η x) (den η y)).run P w = .ok (yes p) w
  | 0, _, _, _, _, h, _ => h.elim
  | n + 1, t, x, y, K, h, d => by
    have e1 : n + 1 + d = (n + d) + 1 := by omega
    simp only [eqV] at h
    split at h
    · exact h.elim
    rename_i ti hti
    obtain ⟨hu, _, _, _, _, hq⟩ := hT t ti hti
    split at h
    · rename_i k0 k a k' b hd
      rw [hd] at hu
      split at h
      · rename_i hk
        obtain rfl := sameKind_eq hk
        refine ⟨_, h, fun w => ?_⟩
        rw [e1]
        simp only [den, run_equalIn_int w (n + d) t k k0 a b hu]
        congr 1
        exact beq_yes (by simp)
      · exact h.elim
    · rename_i a b hd
      rw [hd] at hu
      refine ⟨_, h, fun w => ?_⟩
      rw [e1]
      simp only [den, run_equalIn_bool' w (n + d) t a b hu]
      congr 1
      exact beq_yes (by simp)
    · rename_i a b hd
      rw [hd] at hu
      refine ⟨_, h, fun w => ?_⟩
      rw [e1]
      simp only [den, run_equalIn_string w (n + d) t a b hu]
      congr 1
      refine beq_yes ?_
      rw [ByteArray.toList_eq, ByteArray.toList_eq]
      constructor
      · intro he
        have he := eq_of_beq he
        obtain ⟨⟨x⟩⟩ := a
        obtain ⟨⟨y⟩⟩ := b
        have he : x = y := he
        rw [he]
      · intro he
        rw [he]
        exact beq_self_eq_true _
    · rename_i fs cs ds hd
      split at h
      · rename_i hqq
        obtain ⟨h1, _, h3⟩ := hq hqq
        obtain ⟨p, hk, hp⟩ := eqFs_sound (η := η) hT (d := n + d) (fun t x y K h => eqV_sound hT h d) (h3 fs hd) h
        refine ⟨p, hk, fun w => ?_⟩
        rw [hd] at hu
        have hf : P.fieldsOf t = fs := by simp only [Program.fieldsOf, hu]
        rw [e1]
        simp only [den]
        rw [run_equalIn_struct w (n + d) t _ _ (by rw [hf]; exact hu) h1, hf]
        exact hp w
      · exact h.elim
    · rename_i len e n1 k1 f n2 k2 g hd
      split at h
      · rename_i te hqq hte
        split at h
        · rename_i k0 hde hsz
          split at h
          · rename_i b nn hb
            simp only [Bool.and_eq_true] at hb
            obtain ⟨⟨hb1, hb2⟩, hb3⟩ := hb
            obtain rfl := beq_eq hb1
            obtain rfl := beq_eq hb2
            obtain rfl := sameKind_eq hb3
            rw [hd] at hu
            obtain ⟨_, _, _, _, ⟨i, hi, his, _⟩, _⟩ := hT e te hte
            have hce : P.cellsOf e = 1 := by
              have : P.cellsOf e = i.size := by simp [Program.cellsOf, hi]
              rw [this, his, hsz]
            refine ⟨_, h, fun w => ?_⟩
            have e2 : nn + 1 + 1 + d = (nn + d + 1) + 1 := by omega
            obtain ⟨b, hb, hiff⟩ := eqItems_ints (d := nn + d) hT hte hde len k1 f g w (List.range len) (fun j hj => List.mem_range.1 hj)
            have hx : ∀ h : Nat → Int, den η (.g [.gi len k1 h]) = .agg (ints len k1 h).toArray := fun h => by simp [den, dens, pc]
            rw [e2, hx, hx, run_equalIn_array w (nn + d + 1) _ _ hu hi, hce, hb]
            congr 1
            refine beq_yes ?_
            rw [hiff]
            simp
          · exact h.elim
        · exact h.elim
      · exact h.elim
    · exact h.elim

theorem eqV_at (hT : TOk P T) {n : Nat} {t : TypeId} {x y : SV} {K : Prop → Prop} (h : eqV T n t x y K) (D : Nat) (hD : n ≤ D) : ∃ p, K p ∧ ∀ w : World, (Op.equalIn D t (den η x) (den η y)).run P w = .ok (yes p) w := by
  obtain ⟨d, rfl⟩ := Nat.le.dest hD
  exact eqV_sound hT h d

theorem eqOp_sound (hT : TOk P T) {t : TypeId} {op : BinOp} {x y : SV} {K : SV → Prop} {ti : TI} (hti : T.at t = some ti) (hd : aggD ti.d = true) {ox oy : Operand} (h : eqOp T t op x y K) :
    ∃ v, K v ∧ ∀ w : World, (eqGuard op t ox oy (den η x) (den η y)).run P w = .ok () w ∧ (binOp op t (den η x) (den η y)).run P w = .ok (den η v) w := by
  have shape : ∀ {n : Nat} {K : Prop → Prop}, eqV T (n + 1) t x y K → (∃ cs, x = .g cs) ∧ (∃ ds, y = .g ds) ∧ ti.q = true := by
    intro n K h'
    simp only [eqV, hti] at h'
    split at h' <;> rename_i hde <;> first | (rw [hde] at hd; cases hd; done) | skip
    · split at h'
      · rename_i hq; exact ⟨⟨_, rfl⟩, ⟨_, rfl⟩, hq⟩
      · exact h'.elim
    · split at h'
      · rename_i hq _; exact ⟨⟨_, rfl⟩, ⟨_, rfl⟩, hq⟩
      · exact h'.elim
    · exact h'.elim
  unfold eqOp at h
  split at h
  · obtain ⟨⟨cs, rfl⟩, ⟨ds, rfl⟩, hq⟩ := shape h
    obtain ⟨p, hk, hp⟩ := eqV_at (η := η) hT h 10000 (by omega)
    refine ⟨_, hk, fun w => ⟨?_, ?_⟩⟩
    · simp only [den]
      exact run_eqGuard_agg w _ t ox oy _ _ ((hT t ti hti).2.2.2.2.2 hq).2.1
    · have := hp w
      have e := run_eql_struct (P := P) w t (dens η cs).toArray (dens η ds).toArray
      have this' : (Op.equalIn 10000 t (.agg (dens η cs).toArray) (.agg (dens η ds).toArray)).run P w = .ok (yes p) w := this
      rw [this'] at e
      exact e
  · obtain ⟨⟨cs, rfl⟩, ⟨ds, rfl⟩, hq⟩ := shape h
    obtain ⟨p, hk, hp⟩ := eqV_at (η := η) hT h 10000 (by omega)
    refine ⟨_, hk, fun w => ⟨?_, ?_⟩⟩
    · simp only [den]
      exact run_eqGuard_agg w _ t ox oy _ _ ((hT t ti hti).2.2.2.2.2 hq).2.1
    · have := hp w
      have e := run_neq_struct (P := P) w t (dens η cs).toArray (dens η ds).toArray
      have this' : (Op.equalIn 10000 t (.agg (dens η cs).toArray) (.agg (dens η ds).toArray)).run P w = .ok (yes p) w := this
      rw [this'] at e
      exact e
  · exact h.elim

theorem nilOp_sound {t e : TypeId} (hu : P.underlying t = some (.slice e)) {op : BinOp} {x y : SV} {K : SV → Prop} {ox oy : Operand} (h : nilOp op x y K) :
    ∃ v, K v ∧ ∀ w : World, (eqGuard op t ox oy (den η x) (den η y)).run P w = .ok () w ∧ (binOp op t (den η x) (den η y)).run P w = .ok (den η v) w := by
  unfold nilOp at h
  split at h
  · exact ⟨_, h, fun w => ⟨by simp [eqGuard, den], run_eql_slice_nil w t e _ _ _ hu⟩⟩
  · exact ⟨_, h, fun w => ⟨by simp [eqGuard, den], run_neq_slice_nil w t e _ _ _ hu⟩⟩
  · exact h.elim

theorem binV_sound (hT : TOk P T) {h0 : Heap} {C : Prop → Prop} {Tg : Prop} (hC : ∀ c, C c → Tg → c) {t : TypeId} {op : BinOp} {x y : SV} {K : SV → Prop} {ox oy : Operand} (h : binV T h0 t op x y C K) :
    ∃ v, K v ∧ ∀ w : World, HQ η m h0 w → (Tg → (eqGuard op t ox oy (den η x) (den η y)).run P w = .ok () w ∧ (binOp op t (den η x) (den η y)).run P w = .ok (den η v) w) := by
  unfold binV at h
  split at h
  case h_2 => exact h.elim
  rename_i ti hti
  have hu := (hT t ti hti).1
  split at h
  · rename_i fs hd
    obtain ⟨v, hk, hv⟩ := eqOp_sound (η := η) (ox := ox) (oy := oy) hT hti (by rw [hd]; rfl) h
    exact ⟨v, hk, fun w _ _ => hv w⟩
  · rename_i n e hd
    obtain ⟨v, hk, hv⟩ := eqOp_sound (η := η) (ox := ox) (oy := oy) hT hti (by rw [hd]; rfl) h
    exact ⟨v, hk, fun w _ _ => hv w⟩
  · rename_i e hd
    rw [hd] at hu
    obtain ⟨v, hk, hv⟩ := nilOp_sound (η := η) (ox := ox) (oy := oy) hu h
    exact ⟨v, hk, fun w _ _ => hv w⟩
  · obtain ⟨r, hk, hr⟩ := binOpV_sound η (P := P) hu hC h
    exact ⟨r, hk, fun w hH ht => ⟨eqGuard_sound h, hr w (st_A hH) ht⟩⟩
end
end Go.Proofs.YtaeoibnbbpgajaaDoor.Sx
