/- The arguments of the statements, opened; the table, as the program's text lays it. -/
import Derived.Test.YtaeoibnbbpgajaaDoorCrcC
import Derived.Test.YtaeoibnbbpgajaaDoorLaw
import Derived.Test.YtaeoibnbbpgajaaDoorCards
import Derived.Test.YtaeoibnbbpgajaaDoorTie
import Derived.OpenShut
import Derived.Lib.LaidTab
namespace Go.Proofs.YtaeoibnbbpgajaaDoor.Sx
open Go Go.ChangeShapes Go.WideShapes Go.ChangeAt Go.RowKit

theorem own : ownKnob Tryd.prog.godebug = none := by kernel_rfl
theorem laidOut : laidOutB Tryd.prog = true := by kernel_rfl
theorem gTab : Tryd.prog.globalNamed "quern/crc.half" = some 0 := by kernel_rfl
theorem gTabType : (Tryd.prog.globals[0]?).map (·.type) = some 39 := by kernel_rfl
theorem cells39 : Tryd.prog.cellsOf 39 = 16 := by kernel_rfl
theorem cells22 : Tryd.prog.cellsOf 22 = 1 := by kernel_rfl
theorem cells5 : Tryd.prog.cellsOf 5 = 1 := by kernel_rfl
theorem cells23 : Tryd.prog.cellsOf 23 = 1 := by kernel_rfl
theorem bytes5 : Tryd.prog.bytesOf 5 = 1 := by kernel_rfl
theorem bytes23 : Tryd.prog.bytesOf 23 = 24 := by kernel_rfl

/-- All that a world's memory holds, as memory that stays. -/
def allMem (W : World) : Mem := fun b => W.heap[b]?
theorem mcell_all {W : World} {a : Addr} {v : Value} (h : W.cell? a = some v) (hs : a.spot = none) : mcell (allMem W) a = some v := by
  unfold World.cell? at h
  unfold mcell allMem
  cases hb : W.heap[a.block]? with
  | none => rw [hb] at h; simp at h
  | some o =>
    rw [hb] at h
    cases o <;> simp_all

theorem tabs_of {row : List (String × DataW Unit)} (hrow : row = [("quern/crc.half", Rows.laid_quern_crc_half)]) {W : World} (h : laidMetH Tryd.prog row W) : Tabs (allMem W) := by
  subst hrow
  have ht : Lib.TabIs Tryd.prog W "quern/crc.half" .u32 (Plain.tabL.map fun x => (x.toNat : Int)) :=
    Lib.tabIs_of_head (rest := []) gTab gTabType Tryd.underlying39 Tryd.underlying22 cells22 cells39 h
  intro j hj
  have h1 := ht.cell gTab j (by rw [List.length_map]; exact hj)
  refine mcell_all ?_ rfl
  rw [h1]
  congr 2
  unfold Plain.tab
  rw [List.getD_eq_getElem?_getD, List.getD_eq_getElem?_getD, List.getElem?_map]
  have : j < Plain.tabL.length := hj
  rw [List.getElem?_eq_getElem this]
  rfl

section
variable {H : Type} {enc : TypeId × Value → H} {W : World} {base : Nat}

theorem of_u8 {n : Int} (h : (Lit.int .u8 n).wf = true) : ∃ b : BitVec 8, n = (b.toNat : Int) := by
  have := bounds_u8 h
  refine ⟨BitVec.ofInt 8 n, ?_⟩
  rw [BitVec.toNat_ofInt]
  omega
theorem of_u32 {n : Int} (h : (Lit.int .u32 n).wf = true) : ∃ b : BitVec 32, n = (b.toNat : Int) := by
  have := bounds_u32 h
  refine ⟨BitVec.ofInt 32 n, ?_⟩
  rw [BitVec.toNat_ofInt]
  omega
theorem of_u8s : ∀ {zs : List Int}, (∀ n ∈ zs, (Lit.int .u8 n).wf = true) → ∃ l : List (BitVec 8), zs = l.map fun b => (b.toNat : Int)
  | [], _ => ⟨[], rfl⟩
  | z :: zs, h => by
    obtain ⟨b, hb⟩ := of_u8 (h z (.head _))
    obtain ⟨l, hl⟩ := of_u8s fun n hn => h n (.tail _ hn)
    exact ⟨b :: l, by rw [hb, hl]; rfl⟩

theorem add_spot {a : Addr} {j : Nat} {v : Value} (h : W.cell? (a.add j) = some v) : (a.add j).spot = none := by
  unfold World.cell? at h
  cases hs : (a.add j).spot with
  | none => rfl
  | some x =>
    rw [hs] at h
    split at h <;> simp_all

/-- A row of bytes that is handed in. -/
theorem open_bytes {fuel : Nat} {v : Value} {d : DataW H} {ps : List MemPlace} (h : DataW.trod enc Tryd.prog W 0 (fun _ => true) true fuel 23 [v] = some (d, ps)) (hw : (d.weights Tryd.prog 23).all (· ≤ reachBytes) = true) :
    ∃ (A : Option Addr) (c : Nat) (l : List (BitVec 8)), v = .slice A l.length c ∧ Bytes (allMem W) A l ∧ l.length ≤ reachBytes := by
  rcases open_ints Tryd.underlying23 Tryd.underlying5 cells5 h with ⟨hcs, hx⟩ | ⟨a, len, cap, zs, hcs, _, hl, hm, hz, hx, hcell, hwz⟩
  · cases hcs
    exact ⟨none, 0, [], rfl, (fun j b hj => by cases hj), Nat.zero_le _⟩
  · cases hcs
    obtain ⟨l, rfl⟩ := of_u8s hwz
    simp only [if_true, List.length_map] at hz
    cases hx
    simp only [DataW.weights, Tryd.underlying23, bytes5, List.all_cons, Bool.and_eq_true, decide_eq_true_eq] at hw
    have hsz : len ≤ reachBytes := by
      have := hw.1
      simp only [lits, List.length_map, List.length_take, List.length_drop] at this
      omega
    refine ⟨some a, cap, l.take len, by rw [List.length_take, Nat.min_eq_left (by omega)], fun j b hj => ⟨a, rfl, ?_⟩, by rw [List.length_take]; omega⟩
    have hjl : j < len ∧ l[j]? = some b := by
      rw [List.getElem?_take] at hj
      split at hj
      · exact ⟨by assumption, hj⟩
      · cases hj
    have hc := hcell j (by rw [List.length_map]; omega)
    have e : (l.map fun b => (b.toNat : Int)).getD j 0 = (b.toNat : Int) := by
      rw [List.getD_eq_getElem?_getD, List.getElem?_map, hjl.2]
      rfl
    rw [e] at hc
    exact mcell_all hc (add_spot hc)
theorem trod_cells1 {t : TypeId} {v : Value} {d : DataW H} {ps : List MemPlace} {e : TypeId} (ht : Tryd.prog.underlying t = some (.slice e)) (hval : Value.okWide Tryd.prog W .any base t v) (h : DataW.Trod enc Tryd.prog W 0 (fun _ => true) true t v d ps) :
    ∃ fuel, DataW.trod enc Tryd.prog W 0 (fun _ => true) true fuel t [v] = some (d, ps) := by
  obtain ⟨a, l, c, rfl⟩ := okWide_slice ht hval
  exact h
end
theorem reach_lt {n : Nat} (h : n ≤ reachBytes) : n < 2 ^ 62 := by
  unfold reachBytes at h
  omega

/-- A world for the witness: the table holds what the program's text lays. -/
noncomputable def laidWorld (os : Os) : World :=
  { World.holding Tryd.prog os ⟨#[], #[], []⟩ with heap := (World.holding Tryd.prog os ⟨#[], #[], []⟩).heap.modify 0 fun
      | .cells _ t frozen => .cells (Plain.tabL.map fun x => .int .u32 (x.toNat : Int)).toArray t frozen
      | o => o }
end Go.Proofs.YtaeoibnbbpgajaaDoor.Sx
