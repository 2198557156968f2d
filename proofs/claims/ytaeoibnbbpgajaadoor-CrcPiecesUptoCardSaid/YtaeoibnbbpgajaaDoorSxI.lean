/- Symbolic execution, ninth text: the quiet operations are evaluated rightly, part four. -/
import Derived.Test.YtaeoibnbbpgajaaDoorSxH
namespace Go.Proofs.YtaeoibnbbpgajaaDoor.Sx

section
variable {P : Program} {T : Tbl} (hT : TOk P T) {B : Base} {η : Names} {m : Mem} {h : Heap} {nx : Nat} {C : Prop → Prop} {Tg : Prop} (hC : ∀ c, C c → Tg → c)

include hT hC in
theorem indexV_sound {t : TypeId} {x ix : SV} {K : SV → Prop} (hl : indexV T t x ix C K) :
    ∃ v, K v ∧ ∀ w : World, (Tg → (Instr.index t (den η x) (den η ix)).run P w = .ok (den η v) w) := by
  unfold indexV at hl
  split at hl
  · rename_i k i
    split at hl
    · rename_i ti hti
      have hu := (hT t ti hti).1
      split at hl
      · rename_i s hd
        rw [hd] at hu
        refine ⟨_, hl.2, fun w ht => ?_⟩
        obtain ⟨h0, h1⟩ := hC _ hl.1 ht
        have hlt : i.toNat < s.size := by omega
        simp only [den, Instr.index, asIntOf, Sem.run_bind, Sem.run_pure, Result.andThen_ok, run_underlying hu, h0, if_true]
        rw [getElem?_pos s i.toNat hlt]
        have hb : s.data.toList.getD i.toNat 0 = s[i.toNat] := by
          rw [List.getD_eq_getElem?_getD, List.getElem?_eq_getElem (by simpa using hlt)]
          rfl
        simp only [sb]; rw [hb]; rfl
      · rename_i n e k' kd f hd
        rw [hd] at hu
        split at hl
        · rename_i te hb hte
          obtain rfl := beq_eq hb
          split at hl
          · rename_i hde hsz
            refine ⟨_, hl.2, fun w ht => ?_⟩
            obtain ⟨h0, h1⟩ := hC _ hl.1 ht
            have hlt : i.toNat < n := by omega
            have hs := run_size hT (w := w) hte
            have hag := run_isAgg hT (w := w) hte
            rw [hde] at hag
            simp only [den, Instr.index, asIntOf, Sem.run_bind, Sem.run_pure, Result.andThen_ok, run_underlying hu, h0, h1, and_self, if_true, hs, hsz, Nat.mul_one, part, hag, aggD, Bool.false_eq_true, if_false]
            simp [dens, pc, ints, hlt]
          · exact hl.elim
        · exact hl.elim
      · exact hl.elim
    · exact hl.elim
  · exact hl.elim

include hT in
theorem run_part_get {t : TypeId} {tf : TI} (htf : T.at t = some tf) {cs : List SV} {o : Nat} {K : SV → Prop} (hg : getAt cs (aggD tf.d) o tf.size K) :
    ∃ v, K v ∧ ∀ w : World, (part t (dens η cs).toArray o).run P w = .ok (den η v) w := by
  obtain ⟨v, hk, hv⟩ := getAt_sound hg
  refine ⟨v, hk, fun w => ?_⟩
  have hv := hv η
  have hag := run_isAgg hT (w := w) htf
  have hs := run_size hT (w := w) htf
  cases hd : aggD tf.d with
  | true =>
    rw [hd] at hv hag
    simp only [part, Sem.run_bind, hag, Result.andThen_ok, if_true, hs, hv.2]
    simp only [Sem.run_pure, List.extract_toArray]
    rw [List.extract_eq_take_drop]
    simp
  | false =>
    rw [hd] at hv hag
    simp only [part, Sem.run_bind, hag, Result.andThen_ok, Bool.false_eq_true, if_false]
    simp only [List.getElem?_toArray, hv]
    rfl

include hT in
theorem fieldV_sound {t : TypeId} {x : SV} {f : Nat} {K : SV → Prop} (hl : fieldV T t x f K) :
    ∃ v, K v ∧ ∀ w : World, (Instr.field t (den η x) f).run P w = .ok (den η v) w := by
  unfold fieldV at hl
  split at hl
  · rename_i ti hti
    have hu := (hT t ti hti).1
    split at hl
    · rename_i fs hd
      rw [hd] at hu
      split at hl
      · rename_i fl hf
        have hg : fs[f]? = some fl := by have := fieldOf_get hf; simpa using this
        split at hl
        · rename_i tf htf
          split at hl
          · obtain ⟨v, hk, hv⟩ := run_part_get (η := η) hT htf hl
            refine ⟨v, hk, fun w => ?_⟩
            simp only [den, Instr.field, Sem.run_bind, run_underlying hu, Result.andThen_ok, hg, asAgg, Sem.run_pure, hv w]
          · exact hl.elim
        · exact hl.elim
      · exact hl.elim
    · exact hl.elim
  · exact hl.elim

theorem convV_sound (hT : TOk P T) {a b : TypeId} {x : SV} {K : SV → Prop} (hl : convV T a b x K) :
    ∃ v, K v ∧ ∀ w : World, (convert a b (den η x)).run P w = .ok (den η v) w := by
  unfold convV at hl
  split at hl
  · rename_i ta tb hta htb
    have hua := (hT a ta hta).1
    have hub := (hT b tb htb).1
    split at hl
    · split at hl
      · rename_i hdb
        split at hl
        · rename_i hda
          rw [hda] at hua
          rw [hdb] at hub
          exact ⟨_, hl, fun w => by simp [den, convert, run_underlying hua, run_underlying hub, Conv.intToInt]⟩
        · exact hl.elim
      · exact hl.elim
    · split at hl
      · rename_i hdb hda
        rw [hda] at hua
        rw [hdb] at hub
        exact ⟨_, hl, fun w => by simp [den, convert, run_underlying hua, run_underlying hub]⟩
      · exact hl.elim
    · exact hl.elim
  · exact hl.elim

theorem bnd_sound {x : Option SV} {dflt top : Nat} {K : Nat → Prop} (hC : ∀ c, C c → Tg → c) (hl : bnd x dflt top C K) :
    ∃ n, K n ∧ ∀ w : World, (Tg → match x with
      | none => n = dflt
      | some x => n ≤ top ∧ ∀ code, (Instr.sliceBound (den η x) top code).run P w = .ok n w) := by
  unfold bnd at hl
  split at hl
  · exact ⟨_, hl, fun _ _ => rfl⟩
  · refine ⟨_, hl.2, fun w ht => ?_⟩
    obtain ⟨h0, h1⟩ := hC _ hl.1 ht
    refine ⟨by omega, fun code => ?_⟩
    simp [den, Instr.sliceBound, asIntOf, h0, h1]
  · exact hl.elim

theorem map_add0 (A : Option Addr) : A.map (fun x => x.add 0) = A := by cases A <;> rfl
include hT hC in
theorem sliceV_sound {t : TypeId} {x : SV} {lo hi : Option SV} {K : SV → Prop} (hl : sliceV T h t x lo hi C K) :
    ∃ v, K v ∧ ∀ w : World, HQ η m h w → (Tg → (Instr.sliceAt t (den η x) (lo.map (den η)) (hi.map (den η)) none).run P w = .ok (den η v) w) := by
  unfold sliceV at hl
  split at hl
  · rename_i ti hti
    have hu := (hT t ti hti).1
    split at hl
    · rename_i s hd
      rw [hd] at hu
      obtain ⟨h1, hl, hh⟩ := bnd_sound (η := η) (P := P) hC hl
      obtain ⟨l1, hl, hll⟩ := bnd_sound (η := η) (P := P) hC hl
      refine ⟨_, hl, fun w hH ht => ?_⟩
      have hh' := hh w ht
      have hll' := hll w ht
      clear hh hll
      cases hi <;> cases lo <;> simp only at hh' hll'
      · subst hh' hll'; simp [den, Instr.sliceAt, run_underlying hu, Instr.slice, Instr.sliceBounds]
      · subst hh'; simp [den, Instr.sliceAt, run_underlying hu, Instr.slice, Instr.sliceBounds, hll'.2]
      · subst hll'; simp [den, Instr.sliceAt, run_underlying hu, Instr.slice, Instr.sliceBounds, hh'.2]
      · simp [den, Instr.sliceAt, run_underlying hu, Instr.slice, Instr.sliceBounds, hh'.2, hll'.2]
    · rename_i e A len cap hd
      rw [hd] at hu
      split at hl
      · rename_i te hte
        obtain ⟨h1, hl, hh⟩ := bnd_sound (η := η) (P := P) hC hl
        obtain ⟨l1, hl, hll⟩ := bnd_sound (η := η) (P := P) hC hl
        cases lo with
        | none =>
          cases hi with
          | none =>
            refine ⟨_, hl, fun w hH ht => ?_⟩
            simp [den, Instr.sliceAt, run_underlying hu, Instr.slice, Instr.sliceBounds, run_size hT hte, map_add0]
          | some hi =>
            refine ⟨_, hl, fun w hH ht => ?_⟩
            have hh' := hh w ht
            clear hh hll
            simp [den, Instr.sliceAt, run_underlying hu, Instr.slice, Instr.sliceBounds, run_size hT hte, hh'.2, map_add0]
        | some lo =>
          refine ⟨_, hl, fun w hH ht => ?_⟩
          have hh' := hh w ht
          have hll' := hll w ht
          clear hh hll
          simp only at hll'
          cases hi <;> simp only at hh'
          · subst hh'; simp [den, Instr.sliceAt, run_underlying hu, Instr.slice, Instr.sliceBounds, run_size hT hte, hll'.2]
          · simp [den, Instr.sliceAt, run_underlying hu, Instr.slice, Instr.sliceBounds, run_size hT hte, hh'.2, hll'.2]
      · exact hl.elim
    · rename_i e r len hd
      rw [hd] at hu
      split at hl
      · rename_i te hte
        split at hl
        · rename_i e' z k xs hlk
          obtain ⟨hc, hl⟩ := hl
          have hcap : ∀ w : World, HQ η m h w → k ≤ (η r).cap := by
            intro w hH
            rcases (hH.ck r _ hlk).2 with ⟨_, ⟨_, hk, hc⟩ | ⟨_, _, _, _, _, hk, _⟩⟩ <;> omega
          cases hi with
          | none =>
            simp only [bnd] at hl
            refine ⟨_, hl, fun w hH ht => ?_⟩
            simp [den, Instr.sliceAt, run_underlying hu, Instr.slice, Instr.sliceBounds, run_size hT hte, map_add0]
          | some hi =>
            cases hi with
            | i kd n =>
              simp only [bnd] at hl
              refine ⟨_, hl.2, fun w hH ht => ?_⟩
              have hk := hC _ hc ht
              have hcap := hcap w hH
              obtain ⟨h0, h1⟩ := hC _ hl.1 ht
              have h2 : n ≤ ((η r).cap : Int) := by omega
              simp [den, Instr.sliceAt, run_underlying hu, Instr.slice, Instr.sliceBounds, Instr.sliceBound, asIntOf, run_size hT hte, map_add0, h0, h2]
            | _ => exact hl.elim
        · exact hl.elim
      · exact hl.elim
    · exact hl.elim
  · exact hl.elim

theorem foldK_sound {f : SV → SV → (SV → Prop) → Prop} {F : Value → Value → Sem Value} (hf : ∀ x y K, f x y K → ∃ v, K v ∧ ∀ w : World, (F (den η x) (den η y)).run P w = .ok (den η v) w) :
    ∀ {l : List SV} {x : SV} {K : SV → Prop}, foldK f x l K → ∃ v, K v ∧ ∀ w : World, ((dent η l).foldlM F (den η x)).run P w = .ok (den η v) w
  | [], x, K, h => ⟨x, h, fun _ => rfl⟩
  | y :: r, x, K, h => by
    simp only [foldK] at h
    obtain ⟨v, h, hv⟩ := hf _ _ _ h
    obtain ⟨u, h, hu⟩ := foldK_sound hf h
    exact ⟨u, h, fun w => by simp only [dent, List.foldlM_cons, Sem.run_bind, hv w, Result.andThen_ok, hu w]⟩

include hT in
theorem builtinV_sound {b : Builtin} {ts : Array TypeId} {xs : List SV} {K : SV → Prop} {ty : TypeId} {cs : Array Bool} (hl : builtinV T b ts.toList xs K) :
    ∃ v, K v ∧ ∀ w : World, (builtin b ts ty cs (dent η xs).toArray).run P w = .ok (.value (den η v)) w := by
  unfold builtinV at hl
  split at hl
  · rename_i t x hts
    split at hl
    · rename_i ti hti
      have hu := (hT t ti hti).1
      have ht0 : ts[0]? = some t := by rw [← Array.getElem?_toList, hts]; rfl
      split at hl
      · rename_i s hd
        rw [hd] at hu
        exact ⟨_, hl, fun w => by simp [builtin, Builtin.len_, ht0, dent, den, run_underlying hu, goInt]⟩
      · rename_i e A n c hd
        rw [hd] at hu
        exact ⟨_, hl, fun w => by simp [builtin, Builtin.len_, ht0, dent, den, run_underlying hu, goInt]⟩
      · rename_i e r n hd
        rw [hd] at hu
        exact ⟨_, hl, fun w => by simp [builtin, Builtin.len_, ht0, dent, den, run_underlying hu, goInt]⟩
      · exact hl.elim
    · exact hl.elim
  · rename_i x r
    obtain ⟨v, hk, hv⟩ := foldK_sound (η := η) (P := P) (F := Builtin.min2) (fun x y K h => by
      unfold minV at h
      split at h
      · exact ⟨_, h, fun w => by simp [den, Builtin.min2]⟩
      · exact h.elim) hl
    exact ⟨v, hk, fun w => by simp [builtin, Builtin.min_, dent, hv w]⟩
  · rename_i x r
    obtain ⟨v, hk, hv⟩ := foldK_sound (η := η) (P := P) (F := Builtin.max2) (fun x y K h => by
      unfold maxV at h
      split at h
      · exact ⟨_, h, fun w => by simp [den, Builtin.max2]⟩
      · exact h.elim) hl
    exact ⟨v, hk, fun w => by simp [builtin, Builtin.max_, dent, hv w]⟩
  · exact hl.elim
end
end Go.Proofs.YtaeoibnbbpgajaaDoor.Sx
