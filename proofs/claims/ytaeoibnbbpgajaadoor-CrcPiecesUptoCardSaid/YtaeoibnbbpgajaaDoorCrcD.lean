/- The arguments of the statements, opened; the table, as the program's text lays it. -/
import Derived.Test.YtaeoibnbbpgajaaDoorCrcG
import Derived.Deep.Slices
import Derived.Test.YtaeoibnbbpgajaaDoorLaw
import Derived.Test.YtaeoibnbbpgajaaDoorCards
import Derived.Test.YtaeoibnbbpgajaaDoorTie
import Derived.OpenShut
import Derived.Lib.LaidTab
namespace Go.Proofs.YtaeoibnbbpgajaaDoor.Sx
open Go Go.ChangeShapes Go.WideShapes Go.ChangeAt Go.RowKit

theorem own : ownKnob Tryd.prog.godebug = none := by kernel_rfl
theorem laidOut : laidOutB Tryd.prog = true := by kernel_rfl
theorem gTab : Tryd.prog.globalNamed "quern/crc.half" = some 0 := by kernel_rfl
theorem gTabType : (Tryd.prog.globals[0]?).map (·.type) = some 39 := by kernel_rfl
theorem cells39 : Tryd.prog.cellsOf 39 = 16 := by kernel_rfl
theorem cells22 : Tryd.prog.cellsOf 22 = 1 := by kernel_rfl
theorem cells3 : Tryd.prog.cellsOf 3 = 1 := by kernel_rfl
theorem cells28 : Tryd.prog.cellsOf 28 = 4 := by kernel_rfl
theorem cells5 : Tryd.prog.cellsOf 5 = 1 := by kernel_rfl
theorem cells23 : Tryd.prog.cellsOf 23 = 1 := by kernel_rfl
theorem bytes5 : Tryd.prog.bytesOf 5 = 1 := by kernel_rfl
theorem bytes23 : Tryd.prog.bytesOf 23 = 24 := by kernel_rfl

/-- All that a world's memory holds, as memory that stays. -/
def allMem (W : World) : Mem := fun b => W.heap[b]?
theorem mcell_all {W : World} {a : Addr} {v : Value} (h : W.cell? a = some v) (hs : a.spot = none) : mcell (allMem W) a = some v := by
  unfold World.cell? at h
  unfold mcell allMem
  cases hb : W.heap[a.block]? with
  | none => rw [hb] at h; simp at h
  | some o =>
    rw [hb] at h
    cases o <;> simp_all

theorem tabs_of {row : List (String × DataW Unit)} (hrow : row = [("quern/crc.half", Rows.laid_quern_crc_half)]) {W : World} (h : laidMetH Tryd.prog row W) : Tabs (allMem W) := by
  subst hrow
  have ht : Lib.TabIs Tryd.prog W "quern/crc.half" .u32 (Plain.tabL.map fun x => (x.toNat : Int)) :=
    Lib.tabIs_of_head (rest := []) gTab gTabType Tryd.underlying39 Tryd.underlying22 cells22 cells39 h
  intro j hj
  have h1 := ht.cell gTab j (by rw [List.length_map]; exact hj)
  refine mcell_all ?_ rfl
  rw [h1]
  congr 2
  unfold Plain.tab
  rw [List.getD_eq_getElem?_getD, List.getD_eq_getElem?_getD, List.getElem?_map]
  have : j < Plain.tabL.length := hj
  rw [List.getElem?_eq_getElem this]
  rfl

section
variable {H : Type} {enc : TypeId × Value → H} {W : World} {base : Nat}

theorem of_u8 {n : Int} (h : (Lit.int .u8 n).wf = true) : ∃ b : BitVec 8, n = (b.toNat : Int) := by
  have := bounds_u8 h
  refine ⟨BitVec.ofInt 8 n, ?_⟩
  rw [BitVec.toNat_ofInt]
  omega
theorem of_u32 {n : Int} (h : (Lit.int .u32 n).wf = true) : ∃ b : BitVec 32, n = (b.toNat : Int) := by
  have := bounds_u32 h
  refine ⟨BitVec.ofInt 32 n, ?_⟩
  rw [BitVec.toNat_ofInt]
  omega
theorem of_u8s : ∀ {zs : List Int}, (∀ n ∈ zs, (Lit.int .u8 n).wf = true) → ∃ l : List (BitVec 8), zs = l.map fun b => (b.toNat : Int)
  | [], _ => ⟨[], rfl⟩
  | z :: zs, h => by
    obtain ⟨b, hb⟩ := of_u8 (h z (.head _))
    obtain ⟨l, hl⟩ := of_u8s fun n hn => h n (.tail _ hn)
    exact ⟨b :: l, by rw [hb, hl]; rfl⟩

theorem add_spot {a : Addr} {j : Nat} {v : Value} (h : W.cell? (a.add j) = some v) : (a.add j).spot = none := by
  unfold World.cell? at h
  cases hs : (a.add j).spot with
  | none => rfl
  | some x =>
    rw [hs] at h
    split at h <;> simp_all

theorem bulk_one (d : DataW H) : 1 ≤ Rows.uptoBulk d := by
  cases d with
  | lit l => cases l <;> simp [Rows.uptoBulk]
  | _ => simp [Rows.uptoBulk]
theorem bulk_len : ∀ l : List (DataW H), l.length ≤ Rows.uptoBulkAll l
  | [] => Nat.zero_le _
  | x :: r => by
    have h1 := bulk_one x
    have h2 := bulk_len r
    simp only [Rows.uptoBulkAll, List.length_cons]
    omega
/-- A row of bytes that is handed in. -/
theorem open_bytes {fuel : Nat} {v : Value} {d : DataW H} {ps : List MemPlace} (h : DataW.trod enc Tryd.prog W 0 (fun _ => true) true fuel 23 [v] = some (d, ps)) (hw : (d.weights Tryd.prog 23).all (· ≤ reachBytes) = true) :
    ∃ (A : Option Addr) (c : Nat) (l : List (BitVec 8)), v = .slice A l.length c ∧ Bytes (allMem W) A l ∧ l.length ≤ reachBytes ∧ l.length ≤ c ∧ l.length ≤ Rows.uptoBulk d := by
  rcases open_ints Tryd.underlying23 Tryd.underlying5 cells5 h with ⟨hcs, hx⟩ | ⟨a, len, cap, zs, hcs, _, hl, hm, hz, hx, hcell, hwz⟩
  · cases hcs
    exact ⟨none, 0, [], rfl, (fun j b hj => by cases hj), Nat.zero_le _, Nat.zero_le _, Nat.zero_le _⟩
  · cases hcs
    obtain ⟨l, rfl⟩ := of_u8s hwz
    simp only [if_true, List.length_map] at hz
    cases hx
    simp only [DataW.weights, Tryd.underlying23, bytes5, List.all_cons, Bool.and_eq_true, decide_eq_true_eq] at hw
    have hsz : len ≤ reachBytes := by
      have := hw.1
      simp only [lits, List.length_map, List.length_take, List.length_drop] at this
      omega
    have hbulk : (l.take len).length ≤ Rows.uptoBulk (DataW.slice (lits .u8 ((l.map fun b => (b.toNat : Int)).take len)) (lits .u8 ((l.map fun b => (b.toNat : Int)).drop len)) : DataW H) := by
      have h1 := bulk_len (H := H) (lits .u8 ((l.map fun b => (b.toNat : Int)).take len))
      simp only [Rows.uptoBulk]
      simp only [lits, List.length_map, List.length_take] at h1 ⊢
      omega
    refine ⟨some a, cap, l.take len, by rw [List.length_take, Nat.min_eq_left (by omega)], fun j b hj => ⟨a, rfl, ?_⟩, by rw [List.length_take]; omega, by rw [List.length_take]; omega, hbulk⟩
    have hjl : j < len ∧ l[j]? = some b := by
      rw [List.getElem?_take] at hj
      split at hj
      · exact ⟨by assumption, hj⟩
      · cases hj
    have hc := hcell j (by rw [List.length_map]; omega)
    have e : (l.map fun b => (b.toNat : Int)).getD j 0 = (b.toNat : Int) := by
      rw [List.getD_eq_getElem?_getD, List.getElem?_map, hjl.2]
      rfl
    rw [e] at hc
    exact mcell_all hc (add_spot hc)
theorem weights_mem {P : Program} {e : TypeId} {d : DataW H} : ∀ {l : List (DataW H)}, d ∈ l → (DataW.weightsAll P e l).all (· ≤ reachBytes) = true → (d.weights P e).all (· ≤ reachBytes) = true
  | x :: r, hm, h => by
    simp only [DataW.weightsAll, List.all_append, Bool.and_eq_true] at h
    rcases List.mem_cons.1 hm with rfl | hm
    · exact h.1
    · exact weights_mem hm h.2
/-- Several rows of bytes that are handed in. -/
theorem open_lists {fuel : Nat} {v : Value} {d : DataW H} {ps : List MemPlace} (h : DataW.trod enc Tryd.prog W 0 (fun _ => true) true fuel 32 [v] = some (d, ps)) (hw : (d.weights Tryd.prog 32).all (· ≤ reachBytes) = true) :
    ∃ (A : Option Addr) (c : Nat) (l : List (List (BitVec 8))), v = .slice A l.length c ∧ Lists (allMem W) A l ∧ l.length ≤ reachBytes ∧ l.length ≤ c := by
  rcases Go.Deep.open_slice1 Tryd.underlying32 cells23 h with ⟨hcs, hx⟩ | ⟨a, len, cap, m, n, V, D, Pl, hcs, _, hl, hm, hmm, hx, hall⟩
  · cases hcs
    exact ⟨none, 0, [], rfl, (fun j b hj => by cases hj), Nat.zero_le _, Nat.zero_le _⟩
  · cases hcs
    simp only [if_true] at hmm
    subst hmm
    cases hx
    simp only [DataW.weights, Tryd.underlying32, bytes23, List.all_cons, List.all_append, Bool.and_eq_true, decide_eq_true_eq] at hw
    obtain ⟨hw1, hw2, _⟩ := hw
    simp only [List.length_map, List.length_range] at hw1
    have each : ∀ i, ∃ l : List (BitVec 8), i < len → ∃ B c, W.cell? (a.add i) = some (.slice B l.length c) ∧ Bytes (allMem W) B l ∧ l.length < 2 ^ 62 := by
      intro i
      by_cases hi : i < len
      · obtain ⟨hc, ht⟩ := hall i (by omega)
        obtain ⟨B, c, l, hv, hB, hr, _, _⟩ := open_bytes ht (weights_mem (List.mem_map.2 ⟨i, List.mem_range.2 hi, rfl⟩) hw2)
        exact ⟨l, fun _ => ⟨B, c, by rw [← hv]; exact hc, hB, by unfold reachBytes at hr; omega⟩⟩
      · exact ⟨[], fun h => absurd h hi⟩
    obtain ⟨f, hf⟩ := Classical.axiomOfChoice each
    have hln : ((List.range len).map f).length = len := by simp
    refine ⟨some a, m, (List.range len).map f, by rw [hln], fun j l hj => ?_, by rw [hln]; unfold reachBytes at *; omega, by rw [hln]; exact hl⟩
    have hjl : j < len := by
      have := (List.getElem?_eq_some_iff.1 hj).1
      rwa [hln] at this
    rw [List.getElem?_map, List.getElem?_range hjl] at hj
    cases hj
    obtain ⟨B, c, hc, hB, hl'⟩ := hf j hjl
    exact ⟨a, B, c, rfl, mcell_all hc (add_spot hc), hB, hl'⟩
/-- A row of numbers that is handed in. -/
theorem open_nums {fuel : Nat} {v : Value} {d : DataW H} {ps : List MemPlace} (h : DataW.trod enc Tryd.prog W 0 (fun _ => true) true fuel 35 [v] = some (d, ps)) :
    ∃ (A : Option Addr) (c : Nat) (l : List Int), v = .slice A l.length c ∧ Ints (allMem W) A l ∧ l.length ≤ Rows.uptoBulk d := by
  rcases open_ints Tryd.underlying35 Tryd.underlying3 cells3 h with ⟨hcs, hx⟩ | ⟨a, len, cap, zs, hcs, _, hl, hm, hz, hx, hcell, hwz⟩
  · cases hcs
    exact ⟨none, 0, [], rfl, (fun j b hj => by cases hj), Nat.zero_le _⟩
  · cases hcs
    simp only [if_true] at hz
    cases hx
    refine ⟨some a, cap, zs.take len, by rw [List.length_take, Nat.min_eq_left (by omega)], fun j b hj => ⟨a, rfl, ?_⟩, ?_⟩
    · have hjl : j < len ∧ zs[j]? = some b := by
        rw [List.getElem?_take] at hj
        split at hj
        · exact ⟨by assumption, hj⟩
        · cases hj
      have hc := hcell j (by omega)
      have e : zs.getD j 0 = b := by rw [List.getD_eq_getElem?_getD, hjl.2]; rfl
      rw [e] at hc
      exact mcell_all hc (add_spot hc)
    · have h1 := bulk_len (H := H) (lits .i64 (zs.take len))
      simp only [Rows.uptoBulk]
      simp only [lits, List.length_map, List.length_take] at h1 ⊢
      omega
/-- Four bytes that are handed in as a value. -/
theorem open_arr4 {v : Value} {d : DataW H} {ps : List MemPlace} (hval : Value.okWide Tryd.prog W .any base 28 v) (h : DataW.Trod enc Tryd.prog W 0 (fun _ => true) true 28 v d ps) :
    ∃ ms : Nat → BitVec 8, v = .agg (ints 4 .u8 fun j => ((ms j).toNat : Int)).toArray := by
  have hv : ∃ cs, v = .agg cs := by
    simp only [Value.okWide, Tryd.underlying28] at hval
    obtain ⟨cs, h1, _⟩ := hval
    exact ⟨cs, h1⟩
  obtain ⟨cs, rfl⟩ := hv
  obtain ⟨fuel, hf⟩ := h
  obtain ⟨xs, m, _, _, hlen, hxl, hall⟩ := DataW.trod_array Tryd.underlying28 hf
  simp only [Value.cells] at hlen hall
  rw [cells28] at hlen
  have each : ∀ i, ∃ b : BitVec 8, i < 4 → cs.toList[i]? = some (.int .u8 (b.toNat : Int)) := by
    intro i
    by_cases hi : i < 4
    · have h1 := hall i hi
      rw [cells5, Nat.mul_one] at h1
      rw [List.getElem?_eq_getElem (by omega)] at h1
      obtain ⟨n, hn1, hn2, hn3⟩ := DataW.trod_int Tryd.underlying5 h1
      obtain ⟨b, rfl⟩ := of_u8 hn3
      refine ⟨b, fun _ => ?_⟩
      have h2 := congrArg (fun l => l[0]?) hn1
      simpa [List.getElem?_take, List.getElem?_drop] using h2
    · exact ⟨0, fun h => absurd h hi⟩
  obtain ⟨f, hf'⟩ := Classical.axiomOfChoice each
  refine ⟨f, ?_⟩
  congr 1
  apply Array.ext'
  apply List.ext_getElem?
  intro i
  by_cases hi : i < 4
  · rw [hf' i hi]
    simp [ints, hi]
  · rw [List.getElem?_eq_none (by omega), List.getElem?_eq_none (by simp [ints]; omega)]
theorem trod_cells1 {t : TypeId} {v : Value} {d : DataW H} {ps : List MemPlace} {e : TypeId} (ht : Tryd.prog.underlying t = some (.slice e)) (hval : Value.okWide Tryd.prog W .any base t v) (h : DataW.Trod enc Tryd.prog W 0 (fun _ => true) true t v d ps) :
    ∃ fuel, DataW.trod enc Tryd.prog W 0 (fun _ => true) true fuel t [v] = some (d, ps) := by
  obtain ⟨a, l, c, rfl⟩ := okWide_slice ht hval
  exact h
end
theorem reach_lt {n : Nat} (h : n ≤ reachBytes) : n < 2 ^ 62 := by
  unfold reachBytes at h
  omega

/-- A world for the witness: the table holds what the program's text lays. -/
noncomputable def laidWorld (os : Os) : World :=
  { World.holding Tryd.prog os ⟨#[], #[], []⟩ with heap := (World.holding Tryd.prog os ⟨#[], #[], []⟩).heap.modify 0 fun
      | .cells _ t frozen => .cells (Plain.tabL.map fun x => .int .u32 (x.toNat : Int)).toArray t frozen
      | o => o }
end Go.Proofs.YtaeoibnbbpgajaaDoor.Sx
