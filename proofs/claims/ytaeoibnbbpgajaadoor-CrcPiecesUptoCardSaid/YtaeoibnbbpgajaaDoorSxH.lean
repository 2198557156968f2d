/- Symbolic execution, eighth text: the quiet operations are evaluated rightly, part three: loads, addresses, slices, built-ins. -/
import Derived.Test.YtaeoibnbbpgajaaDoorSxG
namespace Go.Proofs.YtaeoibnbbpgajaaDoor.Sx

section
variable {P : Program} {T : Tbl} (hT : TOk P T) {w : World}
include hT

theorem run_isAgg {t : TypeId} {ti : TI} (h : T.at t = some ti) : (isAgg t).run P w = .ok (aggD ti.d) w := by
  have hu := (hT t ti h).1
  simp only [isAgg, Sem.run_bind, run_underlying hu, Result.andThen_ok]
  cases ti.d <;> rfl
theorem run_size {t : TypeId} {ti : TI} (h : T.at t = some ti) : (sizeOf t).run P w = .ok ti.size w := by
  obtain ⟨_, _, _, _, ⟨i, hi, hs, _⟩, _⟩ := hT t ti h
  simp [sizeOf, typeInfo, hi, hs]
theorem run_load_agg {t : TypeId} {ti : TI} (h : T.at t = some ti) (hd : aggD ti.d = true) (a : Addr) (vs : List Value) (hl : vs.length = ti.size)
    (hc : ∀ (j : Nat) v, vs[j]? = some v → w.cell? (a.add j) = some v) : (loadVar t a).run P w = .ok (.agg vs.toArray) w := by
  have h1 := run_isAgg hT (w := w) h
  rw [hd] at h1
  have h2 := run_size hT (w := w) h
  rw [← hl] at h2
  simp only [loadVar, Sem.run_bind, h1, h2, Result.andThen_ok, if_true, run_loadCells_list (P := P) w a vs hc]
  rfl
theorem run_load_one {t : TypeId} {ti : TI} (h : T.at t = some ti) (hd : aggD ti.d = false) (a : Addr) (v : Value)
    (hc : w.cell? a = some v) : (loadVar t a).run P w = .ok v w := by
  have h1 := run_isAgg hT (w := w) h
  rw [hd] at h1
  simp only [loadVar, Sem.run_bind, h1, Result.andThen_ok, Bool.false_eq_true, if_false, run_load, hc]
end

theorem add_base (b o : Nat) : (⟨b, 0, none⟩ : Addr).add o = ⟨b, o, none⟩ := by unfold Addr.add; split <;> simp_all
theorem add_add (a : Addr) (i j : Nat) : (a.add i).add j = a.add (i + j) := by
  unfold Addr.add
  by_cases hi : i = 0 <;> by_cases hj : j = 0 <;> simp [hi, hj, Nat.add_assoc]
theorem add_zero' (a : Addr) : a.add 0 = a := rfl

section
variable {P : Program} {T : Tbl} (hT : TOk P T) {B : Base} {η : Names} {m : Mem} {h : Heap} {nx : Nat} {w : World} {C : Prop → Prop} {Tg : Prop} (hC : ∀ c, C c → Tg → c)

theorem mcell_cell {a : Addr} {v : Value} (hH : HQ η m h w) (hm : mcell m a = some v) : w.cell? a = some v := by
  unfold mcell at hm
  split at hm
  · rename_i c e f hb
    have := hH.imm _ _ hb
    simp only [World.cell?, this]
    exact hm
  · cases hm

/-- The cells of a value that is read, and the value. -/
theorem cellsV_den {x : SV} (hcl : cl x = true) (hg : isG x = true) : den η x = .agg (cellsV x).toArray := by
  cases x with
  | g cs => simp only [den, cellsV, dens_cl η η0 cs hcl]
  | _ => cases hg
theorem cellsV_one {x : SV} (hcl : cl x = true) (hg : isG x = false) : cellsV x = [den η x] := by
  cases x with
  | g cs => cases hg
  | _ => simp only [cellsV]; rw [den_cl η0 η _ hcl]

include hT in
/-- A load out of cells that are known as what they were asked for. -/
theorem load_cells {t : TypeId} {ti : TI} (hti : T.at t = some ti) {x : SV} (hcl : cl x = true) (hg : isG x = aggD ti.d) {a : Addr} (hl : (cellsV x).length = ti.size)
    (hc : ∀ (j : Nat) v, (cellsV x)[j]? = some v → w.cell? (a.add j) = some v) : (Instr.loadAt t (.pointer (some a))).run P w = .ok (den η x) w := by
  simp only [Instr.loadAt, Instr.sureAddr, Sem.run_bind, Sem.run_pure, Result.andThen_ok]
  cases hd : aggD ti.d with
  | true =>
    rw [cellsV_den hcl (hg.trans hd)]
    exact run_load_agg hT hti hd a _ hl hc
  | false =>
    have h1 := cellsV_one (η := η) hcl (hg.trans hd)
    exact run_load_one hT hti hd a _ (by have := hc 0 (den η x) (by rw [h1]; rfl); rwa [add_zero'] at this)

include hT hC in
theorem loadV_sound {t : TypeId} {x : SV} {K : SV → Prop} (hl : loadV T h m C t x K) :
    ∃ v, K v ∧ ∀ w : World, HQ η m h w → (Tg → (Instr.loadAt t (den η x)).run P w = .ok (den η v) w) := by
  unfold loadV at hl
  split at hl
  · exact hl.elim
  rename_i ti hti
  split at hl
  · rename_i n o
    split at hl
    · rename_i e cs hlk
      obtain ⟨v, hk, hv⟩ := getAt_sound hl
      refine ⟨v, hk, fun w hH _ => ?_⟩
      obtain ⟨b, hA, _, hb⟩ := (hH.ck n _ hlk).2
      simp only [den, hA, Option.map_some, add_base, Instr.loadAt, Instr.sureAddr, Sem.run_bind, Sem.run_pure, Result.andThen_ok]
      have hv := hv η
      cases hd : aggD ti.d with
      | true =>
        rw [hd] at hv
        obtain ⟨hlen, hv⟩ := hv
        rw [hv]
        refine run_load_agg hT hti hd _ _ (by rw [List.length_take, List.length_drop]; omega) fun j u hu => ?_
        have : (⟨b, o, none⟩ : Addr).add j = ⟨b, o + j, none⟩ := by rw [← add_base, add_add, add_base]
        rw [this, cell_of_row w b (o + j) _ e (0, 0) hb]
        rw [List.getElem?_take] at hu
        split at hu
        · rw [List.getElem?_drop] at hu; simpa using hu
        · cases hu
      | false =>
        rw [hd] at hv
        exact run_load_one hT hti hd _ _ (by rw [cell_of_row w b o _ e (0, 0) hb]; simpa using hv)
    · rename_i e z k xs hlk
      obtain ⟨x, ⟨hcl, hg, hpos, hc⟩, hk⟩ := hl
      refine ⟨x, hk, fun w hH ht => ?_⟩
      obtain ⟨hlen, hcs⟩ := hC _ hc ht
      obtain ⟨hxl, hrow⟩ := (hH.ck n _ hlk).2
      have hsz : (cellsV x).length = ti.size := by rw [hcs, List.length_take, List.length_drop]; omega
      rcases hrow with ⟨_, hk0, _⟩ | ⟨b, cur, hA, _, hb, _, _, _, htake⟩
      · subst hk0
        have hx0 : xs.length = 0 := by have := hxl.1; omega
        have : 0 < ti.size := ble_le hpos
        omega
      · simp only [den, hA, Option.map_some, add_base]
        refine load_cells hT hti hcl hg hsz fun j u hu => ?_
        have : (⟨b, o, none⟩ : Addr).add j = ⟨b, o + j, none⟩ := by rw [← add_base, add_add, add_base]
        rw [this, cell_of_row w b (o + j) _ e (0, 0) hb]
        rw [hcs, List.getElem?_take] at hu
        split at hu
        · rw [List.getElem?_drop, ← htake, List.getElem?_take] at hu
          split at hu
          · simpa using hu
          · cases hu
        · cases hu
    · exact hl.elim
  · rename_i n o j
    split at hl
    · rename_i e cs hlk
      split at hl
      · rename_i k hd
        obtain ⟨y, hl, hy⟩ := partAt_sound hl
        split at hl
        · rename_i k' kd f
          obtain ⟨hc, hk⟩ := hl
          refine ⟨_, hk, fun w hH ht => ?_⟩
          have hj := hC _ hc ht
          obtain ⟨b, hA, _, hb⟩ := (hH.ck n _ hlk).2
          simp only [den, hA, Option.map_some, add_base, Instr.loadAt, Instr.sureAddr, Sem.run_bind, Sem.run_pure, Result.andThen_ok]
          refine run_load_one hT hti (by rw [hd]; rfl) _ _ ?_
          rw [cell_of_row w b (o + j) _ e (0, 0) hb]
          have h2 := congrArg (·[j]?) (hy η).2
          simp only [wid, List.getElem?_take, hj, if_true, List.getElem?_drop] at h2
          rw [List.getElem?_toArray, ← h2]
          simp [dens, pc, ints, hj]
        · exact hl.elim
      · exact hl.elim
    · exact hl.elim
  · rename_i A o
    obtain ⟨x, ⟨hcl, hg, hc⟩, hk⟩ := hl
    refine ⟨x, hk, fun w hH ht => ?_⟩
    obtain ⟨a, rfl, hlen, hcs⟩ := hC _ hc ht
    simp only [den, Option.map_some]
    refine load_cells hT hti hcl hg hlen fun j u hu => ?_
    rw [add_add]
    exact mcell_cell hH (hcs j u hu)
  · exact hl.elim

include hC in
theorem live_sound {n : Nat} {K : Prop} (hl : live h C n K) : K ∧ ∀ w : World, HQ η m h w → (Tg → ∃ b, (η n).A = some ⟨b, 0, none⟩) := by
  unfold live at hl
  split at hl
  · rename_i hlk
    refine ⟨hl, fun w hH _ => ?_⟩
    obtain ⟨b, hA, _⟩ := (hH.ck n _ hlk).2
    exact ⟨b, hA⟩
  · rename_i hlk
    refine ⟨hl.2, fun w hH ht => ?_⟩
    have h0 := hC _ hl.1 ht
    obtain ⟨_, ⟨_, hk, _⟩ | ⟨b, _, hA, _⟩⟩ := (hH.ck n _ hlk).2
    · omega
    · exact ⟨b, hA⟩
  · exact hl.elim

theorem fieldOf_get : ∀ {fs : List Field} {n : Nat} {f : Field}, fieldOf fs n = some f → fs[n]? = some f
  | [], _, _, h => by cases h
  | _ :: _, 0, _, h => by simpa [fieldOf] using h
  | _ :: r, n + 1, f, h => by simpa [fieldOf] using fieldOf_get (fs := r) h

include hT in
theorem run_fieldAt {t : TypeId} {ti : TI} {fs : Array Field} (hti : T.at t = some ti) (hd : ti.d = .struct fs) {f : Nat} {fl : Field} (hf : fieldOf fs.toList f = some fl) {tf : TI} (htf : T.at fl.type = some tf) {k : Nat} (hsz : tf.size = k + 1) (a : Addr) :
    (Instr.fieldAt t (.pointer (some a)) f).run P w = .ok (.pointer (some (a.add fl.offset))) w := by
  have hu := (hT t ti hti).1
  rw [hd] at hu
  have hs := run_size hT (w := w) htf
  rw [hsz] at hs
  have hg : fs[f]? = some fl := by have := fieldOf_get hf; simpa using this
  simp only [Instr.fieldAt, Sem.run_bind, run_underlying hu, Result.andThen_ok, hg, Instr.sureAddr, Sem.run_pure, fieldPlace, hs]
  rfl

include hT hC in
theorem fieldAddrV_sound {t : TypeId} {x : SV} {f : Nat} {K : SV → Prop} (hl : fieldAddrV T h C t x f K) :
    ∃ v, K v ∧ ∀ w : World, HQ η m h w → (Tg → (Instr.fieldAt t (den η x) f).run P w = .ok (den η v) w) := by
  unfold fieldAddrV at hl
  split at hl
  · rename_i ti hti
    split at hl
    · rename_i fs hd
      split at hl
      · rename_i fl hf
        split at hl
        · rename_i tf htf
          split at hl
          · exact hl.elim
          · rename_i k hsz
            split at hl
            · obtain ⟨hk, hb⟩ := live_sound (η := η) (m := m) hC hl
              refine ⟨_, hk, fun w hH ht => ?_⟩
              obtain ⟨b, hA⟩ := hb w hH ht
              simp only [den, hA, Option.map_some]
              rw [run_fieldAt hT hti hd hf htf hsz, add_add]
            · refine ⟨_, hl.2, fun w hH ht => ?_⟩
              have hA := hC _ hl.1 ht
              rename_i A o
              obtain ⟨a, rfl⟩ := Option.isSome_iff_exists.1 hA
              simp only [den, Option.map_some]
              rw [run_fieldAt hT hti hd hf htf hsz, add_add]
            · exact hl.elim
        · exact hl.elim
      · exact hl.elim
    · exact hl.elim
  · exact hl.elim

include hT hC in
theorem indexAddrV_sound {t : TypeId} {x ix : SV} {K : SV → Prop} (hl : indexAddrV T h t x ix C K) :
    ∃ v, K v ∧ ∀ w : World, HQ η m h w → (Tg → (Instr.indexAt t (den η x) (den η ix)).run P w = .ok (den η v) w) := by
  unfold indexAddrV at hl
  split at hl
  · rename_i k i
    split at hl
    · rename_i ti hti
      have hu := (hT t ti hti).1
      split at hl
      · rename_i e hd
        rw [hd] at hu
        split at hl
        · rename_i te hte
          split at hl
          · rename_i A len c
            refine ⟨_, hl.2, fun w hH ht => ?_⟩
            obtain ⟨h0, h1, hA⟩ := hC _ hl.1 ht
            obtain ⟨a, rfl⟩ := Option.isSome_iff_exists.1 hA
            simp [den, Instr.indexAt, asIntOf, run_underlying hu, h0, h1, run_size hT hte]
          · rename_i r len
            split at hl
            · rename_i hlk
              refine ⟨_, hl.2, fun w hH ht => ?_⟩
              obtain ⟨h0, h1, hk⟩ := hC _ hl.1 ht
              obtain ⟨_, ⟨_, hk0, _⟩ | ⟨b, _, hA, _⟩⟩ := (hH.ck r _ hlk).2
              · omega
              · simp [den, hA, Instr.indexAt, asIntOf, run_underlying hu, h0, h1, run_size hT hte]
            · exact hl.elim
          · exact hl.elim
        · exact hl.elim
      · rename_i n e hd
        rw [hd] at hu
        split at hl
        · rename_i te hte
          split at hl
          · rename_i b o
            split at hl
            · rename_i hsz
              obtain ⟨⟨hc, hk⟩, hb⟩ := live_sound (η := η) (m := m) hC hl
              refine ⟨_, hk, fun w hH ht => ?_⟩
              obtain ⟨g, hA⟩ := hb w hH ht
              obtain ⟨h0, h1⟩ := hC _ hc ht
              simp [den, hA, Instr.indexAt, asIntOf, run_underlying hu, Instr.sureAddr, h0, h1, run_size hT hte, hsz, add_add]
            · exact hl.elim
          · rename_i A o
            refine ⟨_, hl.2, fun w hH ht => ?_⟩
            obtain ⟨h0, h1, hA⟩ := hC _ hl.1 ht
            obtain ⟨a, rfl⟩ := Option.isSome_iff_exists.1 hA
            simp [den, Instr.indexAt, asIntOf, run_underlying hu, Instr.sureAddr, h0, h1, run_size hT hte, add_add]
          · exact hl.elim
        · exact hl.elim
      · exact hl.elim
    · exact hl.elim
  · exact hl.elim
end
end Go.Proofs.YtaeoibnbbpgajaaDoor.Sx
