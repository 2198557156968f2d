/- Symbolic execution, twenty-sixth text: what is known of types, row by row (each row is closed by kernel_rfl). -/
import Derived.Test.YtaeoibnbbpgajaaDoorSxY
import Derived.KernelRfl
namespace Go.Proofs.YtaeoibnbbpgajaaDoor.Sx
def TRow (P : Program) (p : TypeId × TI) : Prop := P.underlying p.1 = some p.2.d ∧ cl p.2.z = true ∧ (den η0 p.2.z).cells.size = p.2.size ∧ isG p.2.z = aggD p.2.d ∧
  (P.info? p.1).map (fun i => (i.size, i.bytes, i.zero)) = some (p.2.size, p.2.bytes, some (den η0 p.2.z)) ∧
  (p.2.q = true → P.stoodInHeld p.1 = false ∧ P.eqGuardType P.depth p.1 = false ∧ (match p.2.d with | .struct fs => fs.toList.all (fun f => f.name != "_") | _ => true) = true)
theorem TOk.of {P : Program} : ∀ {T : Tbl}, (∀ p ∈ T, TRow P p) → TOk P T
  | [], _ => fun _ _ h => by cases h
  | (u, i) :: r, h => fun t ti ht => by
    simp only [Tbl.at] at ht
    split at ht
    · rename_i hb
      obtain rfl := beq_eq hb
      cases ht
      obtain ⟨h1, h2, h3, h4, h5, h6⟩ := h (u, i) (.head _)
      refine ⟨h1, h2, h3, h4, ?_, fun hq => ⟨(h6 hq).1, (h6 hq).2.1, fun fs hd f hf => ?_⟩⟩
      · cases hi : P.info? u with
        | none => rw [hi] at h5; cases h5
        | some x =>
          rw [hi] at h5
          simp only [Option.map_some, Option.some.injEq, Prod.mk.injEq] at h5
          exact ⟨x, rfl, h5⟩
      · have h7 := (h6 hq).2.2
        rw [hd] at h7
        have := List.all_eq_true.1 h7 f hf
        simpa using this
    · exact TOk.of (fun p hp => h p (.tail _ hp)) t ti ht
/-- No region in no order is met. -/
def noDP : List Oper → St → Mem → (Ex → St → Mem → Prop) → Prop := fun _ _ _ _ => False
theorem noDP_ok {P : Program} (B : Base) : DPOk P B noDP := fun _ _ _ _ _ h => h.elim
end Go.Proofs.YtaeoibnbbpgajaaDoor.Sx
