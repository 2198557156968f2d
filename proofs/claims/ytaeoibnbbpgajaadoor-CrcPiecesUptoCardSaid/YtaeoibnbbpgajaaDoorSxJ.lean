/- Symbolic execution, tenth text: literals of structs and arrays; every quiet operation is evaluated rightly. -/
import Derived.Test.YtaeoibnbbpgajaaDoorSxI
namespace Go.Proofs.YtaeoibnbbpgajaaDoor.Sx

theorem foldl_splice (off : Nat) : ∀ (vs : List Value) (k : Nat) (cells : Array Value), off + k + vs.length ≤ cells.size →
    ((vs.zipIdx k).foldl (fun cs (p : Value × Nat) => cs.setIfInBounds (off + p.2) p.1) cells).toList = cells.toList.take (off + k) ++ (vs ++ cells.toList.drop (off + k + vs.length))
  | [], k, cells, _ => by simp
  | v :: r, k, cells, h => by
    simp only [List.length_cons] at h
    simp only [List.zipIdx_cons, List.foldl_cons]
    rw [foldl_splice off r (k + 1) _ (by simp; omega)]
    have hlt : off + k < cells.toList.length := by simp; omega
    simp only [Array.toList_setIfInBounds, List.length_cons]
    have h1 : (cells.toList.set (off + k) v).take (off + (k + 1)) = cells.toList.take (off + k) ++ [v] := by
      rw [show off + (k + 1) = off + k + 1 from by omega, List.take_succ_eq_append_getElem (by simpa using hlt), List.take_set_of_le (Nat.le_refl _)]
      simp
    have h2 : (cells.toList.set (off + k) v).drop (off + (k + 1) + r.length) = cells.toList.drop (off + k + (r.length + 1)) := by
      rw [List.drop_set_of_lt (by omega)]
      congr 1
      omega
    rw [h1, h2, List.append_assoc, List.singleton_append, List.cons_append]
theorem splice_toList (cells vs : Array Value) (off : Nat) (h : off + vs.size ≤ cells.size) :
    vs.zipIdx.foldl (fun cs (p : Value × Nat) => cs.setIfInBounds (off + p.2) p.1) cells = (cells.toList.take off ++ (vs.toList ++ cells.toList.drop (off + vs.size))).toArray := by
  have := foldl_splice off vs.toList 0 cells (by simpa using h)
  rw [← Array.toList_inj]
  rw [← Array.foldl_toList, Array.toList_zipIdx]
  simpa using this

section
variable {P : Program} {T : Tbl} (hT : TOk P T) (η : Names) {w : World}

theorem gOrPlain {x : SV} (h : (isG x || plainB x) = true) : isG x = true ∨ plainB x = true := by simpa [Bool.or_eq_true] using h

theorem fill_sound {fs : List Field} : ∀ {l : List (Nat × SV)} {cs : List SV} {K : List SV → Prop} {place : Nat → Option (Nat × Nat)}
    (_ : ∀ i f ti, fieldOf fs i = some f → T.at f.type = some ti → place i = some (f.offset, ti.size)), fill T fs l cs K →
    ∃ cs', K cs' ∧ Instr.fill place (dens η cs).toArray (l.map fun p => (p.1, den η p.2)) = some (dens η cs').toArray
  | [], cs, K, place, _, h => ⟨cs, h, rfl⟩
  | (i, x) :: r, cs, K, place, hp, h => by
    simp only [fill] at h
    split at h
    · rename_i f hf
      split at h
      · rename_i ti hti hx
        obtain ⟨new, h, hnew⟩ := parts_sound h
        obtain ⟨cs1, h, hcs1⟩ := putAt_sound h
        obtain ⟨cs2, hk, h2⟩ := fill_sound hp h
        refine ⟨cs2, hk, ?_⟩
        obtain ⟨hlen, hle, heq⟩ := hcs1 η
        have hcells := hnew η (gOrPlain hx)
        have hsz : (den η x).cells.size = ti.size := by rw [← Array.length_toList, hcells, hlen]
        simp only [List.map_cons, Instr.fill, hp i f ti hf hti, hsz, ne_eq, not_true_eq_false, decide_false, Bool.false_or]
        have hn : ¬ (f.offset + ti.size > (dens η cs).toArray.size) := by simp; omega
        rw [if_neg (by simpa using hn)]
        rw [← h2]
        congr 1
        have := splice_toList (dens η cs).toArray (den η x).cells f.offset (by rw [hsz]; simpa using hle)
        rw [hsz, hcells] at this
        rw [heq]
        exact this
      · exact h.elim
    · exact h.elim
theorem fillA_sound {z : Nat} : ∀ {l : List (Nat × SV)} {cs : List SV} {K : List SV → Prop}, fillA z l cs K →
    ∃ cs', K cs' ∧ Instr.fill (fun i => some (i * z, z)) (dens η cs).toArray (l.map fun p => (p.1, den η p.2)) = some (dens η cs').toArray ∧ (dens η cs').length = (dens η cs).length
  | [], cs, K, h => ⟨cs, h, rfl, rfl⟩
  | (i, x) :: r, cs, K, h => by
    simp only [fillA] at h
    split at h
    · rename_i hx
      obtain ⟨new, h, hnew⟩ := parts_sound h
      obtain ⟨cs1, h, hcs1⟩ := putAt_sound h
      obtain ⟨cs2, hk, h2, h3⟩ := fillA_sound h
      refine ⟨cs2, hk, ?_, ?_⟩
      case refine_2 =>
        obtain ⟨hlen, hle, heq⟩ := hcs1 η
        rw [h3, heq]
        simp only [List.length_append, List.length_take, List.length_drop, hlen]
        omega
      obtain ⟨hlen, hle, heq⟩ := hcs1 η
      have hcells := hnew η (gOrPlain hx)
      have hsz : (den η x).cells.size = z := by rw [← Array.length_toList, hcells, hlen]
      simp only [List.map_cons, Instr.fill, hsz, ne_eq, not_true_eq_false, decide_false, Bool.false_or]
      have hn : ¬ (i * z + z > (dens η cs).toArray.size) := by simp; omega
      rw [if_neg (by simpa using hn)]
      rw [← h2]
      congr 1
      have := splice_toList (dens η cs).toArray (den η x).cells (i * z) (by rw [hsz]; simpa using hle)
      rw [hsz, hcells] at this
      rw [heq]
      exact this
    · exact h.elim

include hT in
theorem run_zero {t : TypeId} {ti : TI} (h : T.at t = some ti) : (zeroValue t).run P w = .ok (den η ti.z) w := by
  obtain ⟨_, hcl, _, _, ⟨i, hi, _, _, hz⟩, _⟩ := hT t ti h
  simp [zeroValue, typeInfo, hi, hz, den_cl η η0 ti.z hcl]
include hT in
theorem run_places : ∀ {fs : List Field}, fieldsOk T fs = true →
    (fs.mapM fun f => (do pure (f.offset, ← sizeOf f.type) : Sem (Nat × Nat))).run P w = .ok (fs.map fun f => (f.offset, ((T.at f.type).map (·.size)).getD 0)) w
  | [], _ => rfl
  | f :: r, h => by
    simp only [fieldsOk] at h
    split at h
    · rename_i ti hti
      have ih := run_places h
      have hs := run_size hT (w := w) hti
      simp only [List.mapM_cons, Sem.run_bind, hs, Result.andThen_ok, Sem.run_pure, ih, List.map_cons, hti, Option.map_some, Option.getD_some]
    · cases h
end
end Go.Proofs.YtaeoibnbbpgajaaDoor.Sx
