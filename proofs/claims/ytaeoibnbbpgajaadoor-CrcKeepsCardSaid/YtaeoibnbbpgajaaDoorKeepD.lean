/- From what is told of a statement's function to the statement's contract: it answers true, and every argument reads as it read. Then: The arguments of the statements, opened; the table, as the program's text lays it. The law CrcKeeps holds of the program for every input: what is handed in stays and is not kept. Condition: the listed variable (quern/crc.half) holds at the call what the program's text lays. -/
import Derived.Test.YtaeoibnbbpgajaaDoorKeepB
import Derived.Carry
import Derived.ChangeSame
import Derived.Deep.DeepHandedRow
import Derived.Test.YtaeoibnbbpgajaaDoorKeepC
import Derived.Deep.Slices
import Derived.Test.YtaeoibnbbpgajaaDoorCards
import Derived.Test.YtaeoibnbbpgajaaDoorTie
import Derived.OpenShut
import Derived.Lib.LaidTab
namespace Go.Proofs.YtaeoibnbbpgajaaDoor.Sx
open Go.RowKit Go.ChangeShapes Go.WideShapes Go.ChangeAt

theorem below_of_hold {W W' : World} {J m : Mem} {k0 : Nat} {η1 η : Names} {h : Heap} {nx : Nat} (hH : Hold ⟨W, [], J, k0, η1⟩ η m h nx W') : Below W.heap.size W W' :=
  ⟨hH.os, hH.tape, hH.output, hH.size, fun k hk => hH.old k hk (by simp)⟩

/-- A call of a function of which something is told, in a world that holds what is asked. -/
theorem law_calls {P : Program} {f : FuncId} {s : Spec} (hok : SpecOk P f s) (a : s.A) (hR : s.R a) {W : World} (hJ : ∀ b o, s.J a b = some o → W.heap[b]? = some o) (hh : s.h a = []) 
    {args : Array Value} (hargs : dent η0 (s.args a) = args.toList) (hout : ∀ b, s.out a b = .ret (.b true)) :
    Calls P f args W fun e W' => e = .returned (.bool true) ∧ Below W.heap.size W W' := by
  have h := hok.2 a hR ⟨W, [], s.J a, s.nx, η0⟩ η0 W rfl rfl rfl rfl (by
    rw [hh]
    exact ⟨hJ, (fun _ _ h => by cases h), (fun _ _ _ h => by cases h), (fun _ _ _ _ _ h => by cases h), fun _ _ _ => rfl, Nat.le_refl _, rfl, rfl, rfl, fun _ _ h => h, fun _ _ h => .inl h, Nat.le_refl _, fun _ _ => rfl⟩)
  rw [hargs, Array.toArray_toList] at h
  refine h.mono fun e W' ⟨b, η', _, hH, he⟩ => ⟨?_, below_of_hold hH⟩
  rw [he, hout]
  rfl

section
variable {H : Type} {enc : TypeId × Value → H} {P : Program}

theorem trodAll_length {w : World} {base : Nat} {sp : Nat → Bool} {hd : Bool} : ∀ {ts : List TypeId} {vs : List Value} {ds : List (DataW H)} {ps : List MemPlace}, DataW.TrodAll enc P w base sp hd ts vs ds ps → ds.length = ts.length
  | [], [], [], _, _ => rfl
  | _ :: _, _ :: _, _ :: _, _, ⟨_, _, _, h, _⟩ => by simp [trodAll_length h]

theorem trodAll_stays (hl : laidOutB P = true) {W W' : World} (hb : Below W.heap.size W W') {sp : Nat → Bool} : ∀ {ts : List TypeId} {vs : List Value} {ds : List (DataW H)} {ps : List MemPlace},
    (∀ t ∈ ts, P.readableRec t = true ∧ t < P.types.size) → DataW.TrodAll enc P W 0 (fun _ => true) true ts vs ds ps → (∀ x ∈ ps, x.block < W.heap.size ∧ sp x.block = true) → DataW.TrodAll enc P W' 0 sp true ts vs ds ps
  | [], [], [], _, _, h, _ => h
  | t :: ts, v :: vs, d :: ds, ps, ht, ⟨p, q, h1, h2, e⟩, hlt => by
    subst e
    exact ⟨p, q, WideElems.Trod_stays hl (ht t (.head _)).1 (ht t (.head _)).2 h1 (fun x hx => hb.same (hlt x (List.mem_append_left _ hx)).1) (fun x hx => (hlt x (List.mem_append_left _ hx)).2),
      trodAll_stays hl hb (fun u hu => ht u (.tail _ hu)) h2 (fun x hx => hlt x (List.mem_append_right _ hx)), rfl⟩

theorem below_kept {W W' : World} (hb : Below W.heap.size W W') (may : MemPlace → Prop) : W.keptBut W' may := by
  refine ⟨hb.os, hb.output, fun i hi => ?_⟩
  rw [hb.block i hi]
  split
  · rename_i h1 h2
    rw [h1] at h2
    cases h2
    exact ⟨rfl, rfl, rfl, fun _ _ => rfl⟩
  · rename_i h1 h2
    rw [h1] at h2
    cases h2
    exact .inr ⟨rfl, rfl⟩
  · rfl

/-- What a statement asks behind a call that answers true and leaves what there was. -/
theorem law_post {fn : Func} {sp : ChangeSpec} {W W' : World} {args : Array Value} {ds gs : List (DataW H)} {before : List MemPlace} (hb : Below W.heap.size W W') (hl : laidOutB P = true)
    (hr : ∀ t ∈ fn.params.toList, P.readableRec t = true ∧ t < P.types.size) {tb : TypeId} (hres : fn.resultTypes = #[tb]) (htb : P.underlying tb = some .bool) (hvars : sp.vars = [])
    (hfn : ∀ ds : List (DataW H), ds.length = fn.params.size → sp.fn H ds = { results := [.lit (.bool true)], args := ds })
    (hW : DataW.Whole enc P fn.params.toList sp.vars false W args.toList ds gs before) : sp.post enc P fn false true false false W args (.bool true) W' := by
  have hW' := hW
  obtain ⟨p, q, hA, hV, rfl, hz, hn⟩ := hW
  rw [hvars] at hV
  obtain ⟨rfl, rfl⟩ := trodVars_none hV
  have hlen : (ds ++ []).length = fn.params.size := by rw [List.append_nil, trodAll_length hA, Array.length_toList]
  refine ⟨ds, [], p ++ [], [], p, [], hW', ?_, ?_, ?_, below_kept hb _, fun h => by cases h⟩
  · rw [hfn _ hlen, hres]
    exact trodAll_mk1 (shut_bool htb true)
  · rw [hfn _ hlen, List.append_nil]
    exact trodAll_stays hl hb hr hA fun x hx => by
      have := hW'.lt x (List.mem_append_left _ hx)
      exact ⟨this, by simpa using this⟩
  · rw [hfn _ hlen, hvars]
    rfl
end
end Go.Proofs.YtaeoibnbbpgajaaDoor.Sx

namespace Go.Proofs.YtaeoibnbbpgajaaDoor.Sx
open Go Go.ChangeShapes Go.WideShapes Go.ChangeAt Go.RowKit

theorem own : ownKnob Tryd.prog.godebug = none := by kernel_rfl
theorem laidOut : laidOutB Tryd.prog = true := by kernel_rfl
theorem gTab : Tryd.prog.globalNamed "quern/crc.half" = some 0 := by kernel_rfl
theorem gTabType : (Tryd.prog.globals[0]?).map (·.type) = some 39 := by kernel_rfl
theorem cells39 : Tryd.prog.cellsOf 39 = 16 := by kernel_rfl
theorem cells22 : Tryd.prog.cellsOf 22 = 1 := by kernel_rfl
theorem cells3 : Tryd.prog.cellsOf 3 = 1 := by kernel_rfl
theorem cells28 : Tryd.prog.cellsOf 28 = 4 := by kernel_rfl
theorem cells5 : Tryd.prog.cellsOf 5 = 1 := by kernel_rfl
theorem cells23 : Tryd.prog.cellsOf 23 = 1 := by kernel_rfl
theorem bytes5 : Tryd.prog.bytesOf 5 = 1 := by kernel_rfl
theorem bytes23 : Tryd.prog.bytesOf 23 = 24 := by kernel_rfl

/-- All that a world's memory holds, as memory that stays. -/
def allMem (W : World) : Mem := fun b => W.heap[b]?
theorem mcell_all {W : World} {a : Addr} {v : Value} (h : W.cell? a = some v) (hs : a.spot = none) : mcell (allMem W) a = some v := by
  unfold World.cell? at h
  unfold mcell allMem
  cases hb : W.heap[a.block]? with
  | none => rw [hb] at h; simp at h
  | some o =>
    rw [hb] at h
    cases o <;> simp_all

theorem tabs_of {row : List (String × DataW Unit)} (hrow : row = [("quern/crc.half", Rows.laid_quern_crc_half)]) {W : World} (h : laidMetH Tryd.prog row W) : Tabs (allMem W) := by
  subst hrow
  have ht : Lib.TabIs Tryd.prog W "quern/crc.half" .u32 (Plain.tabL.map fun x => (x.toNat : Int)) :=
    Lib.tabIs_of_head (rest := []) gTab gTabType Tryd.underlying39 Tryd.underlying22 cells22 cells39 h
  intro j hj
  have h1 := ht.cell gTab j (by rw [List.length_map]; exact hj)
  refine mcell_all ?_ rfl
  rw [h1]
  congr 2
  unfold Plain.tab
  rw [List.getD_eq_getElem?_getD, List.getD_eq_getElem?_getD, List.getElem?_map]
  have : j < Plain.tabL.length := hj
  rw [List.getElem?_eq_getElem this]
  rfl

section
variable {H : Type} {enc : TypeId × Value → H} {W : World} {base : Nat}

theorem of_u8 {n : Int} (h : (Lit.int .u8 n).wf = true) : ∃ b : BitVec 8, n = (b.toNat : Int) := by
  have := bounds_u8 h
  refine ⟨BitVec.ofInt 8 n, ?_⟩
  rw [BitVec.toNat_ofInt]
  omega
theorem of_u32 {n : Int} (h : (Lit.int .u32 n).wf = true) : ∃ b : BitVec 32, n = (b.toNat : Int) := by
  have := bounds_u32 h
  refine ⟨BitVec.ofInt 32 n, ?_⟩
  rw [BitVec.toNat_ofInt]
  omega
theorem of_u8s : ∀ {zs : List Int}, (∀ n ∈ zs, (Lit.int .u8 n).wf = true) → ∃ l : List (BitVec 8), zs = l.map fun b => (b.toNat : Int)
  | [], _ => ⟨[], rfl⟩
  | z :: zs, h => by
    obtain ⟨b, hb⟩ := of_u8 (h z (.head _))
    obtain ⟨l, hl⟩ := of_u8s fun n hn => h n (.tail _ hn)
    exact ⟨b :: l, by rw [hb, hl]; rfl⟩

theorem add_spot {a : Addr} {j : Nat} {v : Value} (h : W.cell? (a.add j) = some v) : (a.add j).spot = none := by
  unfold World.cell? at h
  cases hs : (a.add j).spot with
  | none => rfl
  | some x =>
    rw [hs] at h
    split at h <;> simp_all

theorem bulk_one (d : DataW H) : 1 ≤ Rows.uptoBulk d := by
  cases d with
  | lit l => cases l <;> simp [Rows.uptoBulk]
  | _ => simp [Rows.uptoBulk]
theorem bulk_len : ∀ l : List (DataW H), l.length ≤ Rows.uptoBulkAll l
  | [] => Nat.zero_le _
  | x :: r => by
    have h1 := bulk_one x
    have h2 := bulk_len r
    simp only [Rows.uptoBulkAll, List.length_cons]
    omega
/-- A row of bytes that is handed in. -/
theorem open_bytes {fuel : Nat} {v : Value} {d : DataW H} {ps : List MemPlace} (h : DataW.trod enc Tryd.prog W 0 (fun _ => true) true fuel 23 [v] = some (d, ps)) (hw : (d.weights Tryd.prog 23).all (· ≤ reachBytes) = true) :
    ∃ (A : Option Addr) (c : Nat) (l : List (BitVec 8)), v = .slice A l.length c ∧ Bytes (allMem W) A l ∧ l.length ≤ reachBytes ∧ l.length ≤ c ∧ l.length ≤ Rows.uptoBulk d := by
  rcases open_ints Tryd.underlying23 Tryd.underlying5 cells5 h with ⟨hcs, hx⟩ | ⟨a, len, cap, zs, hcs, _, hl, hm, hz, hx, hcell, hwz⟩
  · cases hcs
    exact ⟨none, 0, [], rfl, (fun j b hj => by cases hj), Nat.zero_le _, Nat.zero_le _, Nat.zero_le _⟩
  · cases hcs
    obtain ⟨l, rfl⟩ := of_u8s hwz
    simp only [if_true, List.length_map] at hz
    cases hx
    simp only [DataW.weights, Tryd.underlying23, bytes5, List.all_cons, Bool.and_eq_true, decide_eq_true_eq] at hw
    have hsz : len ≤ reachBytes := by
      have := hw.1
      simp only [lits, List.length_map, List.length_take, List.length_drop] at this
      omega
    have hbulk : (l.take len).length ≤ Rows.uptoBulk (DataW.slice (lits .u8 ((l.map fun b => (b.toNat : Int)).take len)) (lits .u8 ((l.map fun b => (b.toNat : Int)).drop len)) : DataW H) := by
      have h1 := bulk_len (H := H) (lits .u8 ((l.map fun b => (b.toNat : Int)).take len))
      simp only [Rows.uptoBulk]
      simp only [lits, List.length_map, List.length_take] at h1 ⊢
      omega
    refine ⟨some a, cap, l.take len, by rw [List.length_take, Nat.min_eq_left (by omega)], fun j b hj => ⟨a, rfl, ?_⟩, by rw [List.length_take]; omega, by rw [List.length_take]; omega, hbulk⟩
    have hjl : j < len ∧ l[j]? = some b := by
      rw [List.getElem?_take] at hj
      split at hj
      · exact ⟨by assumption, hj⟩
      · cases hj
    have hc := hcell j (by rw [List.length_map]; omega)
    have e : (l.map fun b => (b.toNat : Int)).getD j 0 = (b.toNat : Int) := by
      rw [List.getD_eq_getElem?_getD, List.getElem?_map, hjl.2]
      rfl
    rw [e] at hc
    exact mcell_all hc (add_spot hc)
theorem weights_mem {P : Program} {e : TypeId} {d : DataW H} : ∀ {l : List (DataW H)}, d ∈ l → (DataW.weightsAll P e l).all (· ≤ reachBytes) = true → (d.weights P e).all (· ≤ reachBytes) = true
  | x :: r, hm, h => by
    simp only [DataW.weightsAll, List.all_append, Bool.and_eq_true] at h
    rcases List.mem_cons.1 hm with rfl | hm
    · exact h.1
    · exact weights_mem hm h.2
/-- Several rows of bytes that are handed in. -/
theorem open_lists {fuel : Nat} {v : Value} {d : DataW H} {ps : List MemPlace} (h : DataW.trod enc Tryd.prog W 0 (fun _ => true) true fuel 32 [v] = some (d, ps)) (hw : (d.weights Tryd.prog 32).all (· ≤ reachBytes) = true) :
    ∃ (A : Option Addr) (c : Nat) (l : List (List (BitVec 8))), v = .slice A l.length c ∧ Lists (allMem W) A l ∧ l.length ≤ reachBytes ∧ l.length ≤ c := by
  rcases Go.Deep.open_slice1 Tryd.underlying32 cells23 h with ⟨hcs, hx⟩ | ⟨a, len, cap, m, n, V, D, Pl, hcs, _, hl, hm, hmm, hx, hall⟩
  · cases hcs
    exact ⟨none, 0, [], rfl, (fun j b hj => by cases hj), Nat.zero_le _, Nat.zero_le _⟩
  · cases hcs
    simp only [if_true] at hmm
    subst hmm
    cases hx
    simp only [DataW.weights, Tryd.underlying32, bytes23, List.all_cons, List.all_append, Bool.and_eq_true, decide_eq_true_eq] at hw
    obtain ⟨hw1, hw2, _⟩ := hw
    simp only [List.length_map, List.length_range] at hw1
    have each : ∀ i, ∃ l : List (BitVec 8), i < len → ∃ B c, W.cell? (a.add i) = some (.slice B l.length c) ∧ Bytes (allMem W) B l ∧ l.length < 2 ^ 62 := by
      intro i
      by_cases hi : i < len
      · obtain ⟨hc, ht⟩ := hall i (by omega)
        obtain ⟨B, c, l, hv, hB, hr, _, _⟩ := open_bytes ht (weights_mem (List.mem_map.2 ⟨i, List.mem_range.2 hi, rfl⟩) hw2)
        exact ⟨l, fun _ => ⟨B, c, by rw [← hv]; exact hc, hB, by unfold reachBytes at hr; omega⟩⟩
      · exact ⟨[], fun h => absurd h hi⟩
    obtain ⟨f, hf⟩ := Classical.axiomOfChoice each
    have hln : ((List.range len).map f).length = len := by simp
    refine ⟨some a, m, (List.range len).map f, by rw [hln], fun j l hj => ?_, by rw [hln]; unfold reachBytes at *; omega, by rw [hln]; exact hl⟩
    have hjl : j < len := by
      have := (List.getElem?_eq_some_iff.1 hj).1
      rwa [hln] at this
    rw [List.getElem?_map, List.getElem?_range hjl] at hj
    cases hj
    obtain ⟨B, c, hc, hB, hl'⟩ := hf j hjl
    exact ⟨a, B, c, rfl, mcell_all hc (add_spot hc), hB, hl'⟩
/-- A row of numbers that is handed in. -/
theorem open_nums {fuel : Nat} {v : Value} {d : DataW H} {ps : List MemPlace} (h : DataW.trod enc Tryd.prog W 0 (fun _ => true) true fuel 35 [v] = some (d, ps)) :
    ∃ (A : Option Addr) (c : Nat) (l : List Int), v = .slice A l.length c ∧ Ints (allMem W) A l ∧ l.length ≤ Rows.uptoBulk d := by
  rcases open_ints Tryd.underlying35 Tryd.underlying3 cells3 h with ⟨hcs, hx⟩ | ⟨a, len, cap, zs, hcs, _, hl, hm, hz, hx, hcell, hwz⟩
  · cases hcs
    exact ⟨none, 0, [], rfl, (fun j b hj => by cases hj), Nat.zero_le _⟩
  · cases hcs
    simp only [if_true] at hz
    cases hx
    refine ⟨some a, cap, zs.take len, by rw [List.length_take, Nat.min_eq_left (by omega)], fun j b hj => ⟨a, rfl, ?_⟩, ?_⟩
    · have hjl : j < len ∧ zs[j]? = some b := by
        rw [List.getElem?_take] at hj
        split at hj
        · exact ⟨by assumption, hj⟩
        · cases hj
      have hc := hcell j (by omega)
      have e : zs.getD j 0 = b := by rw [List.getD_eq_getElem?_getD, hjl.2]; rfl
      rw [e] at hc
      exact mcell_all hc (add_spot hc)
    · have h1 := bulk_len (H := H) (lits .i64 (zs.take len))
      simp only [Rows.uptoBulk]
      simp only [lits, List.length_map, List.length_take] at h1 ⊢
      omega
/-- Four bytes that are handed in as a value. -/
theorem open_arr4 {v : Value} {d : DataW H} {ps : List MemPlace} (hval : Value.okWide Tryd.prog W .any base 28 v) (h : DataW.Trod enc Tryd.prog W 0 (fun _ => true) true 28 v d ps) :
    ∃ ms : Nat → BitVec 8, v = .agg (ints 4 .u8 fun j => ((ms j).toNat : Int)).toArray := by
  have hv : ∃ cs, v = .agg cs := by
    simp only [Value.okWide, Tryd.underlying28] at hval
    obtain ⟨cs, h1, _⟩ := hval
    exact ⟨cs, h1⟩
  obtain ⟨cs, rfl⟩ := hv
  obtain ⟨fuel, hf⟩ := h
  obtain ⟨xs, m, _, _, hlen, hxl, hall⟩ := DataW.trod_array Tryd.underlying28 hf
  simp only [Value.cells] at hlen hall
  rw [cells28] at hlen
  have each : ∀ i, ∃ b : BitVec 8, i < 4 → cs.toList[i]? = some (.int .u8 (b.toNat : Int)) := by
    intro i
    by_cases hi : i < 4
    · have h1 := hall i hi
      rw [cells5, Nat.mul_one] at h1
      rw [List.getElem?_eq_getElem (by omega)] at h1
      obtain ⟨n, hn1, hn2, hn3⟩ := DataW.trod_int Tryd.underlying5 h1
      obtain ⟨b, rfl⟩ := of_u8 hn3
      refine ⟨b, fun _ => ?_⟩
      have h2 := congrArg (fun l => l[0]?) hn1
      simpa [List.getElem?_take, List.getElem?_drop] using h2
    · exact ⟨0, fun h => absurd h hi⟩
  obtain ⟨f, hf'⟩ := Classical.axiomOfChoice each
  refine ⟨f, ?_⟩
  congr 1
  apply Array.ext'
  apply List.ext_getElem?
  intro i
  by_cases hi : i < 4
  · rw [hf' i hi]
    simp [ints, hi]
  · rw [List.getElem?_eq_none (by omega), List.getElem?_eq_none (by simp [ints]; omega)]
theorem trod_cells1 {t : TypeId} {v : Value} {d : DataW H} {ps : List MemPlace} {e : TypeId} (ht : Tryd.prog.underlying t = some (.slice e)) (hval : Value.okWide Tryd.prog W .any base t v) (h : DataW.Trod enc Tryd.prog W 0 (fun _ => true) true t v d ps) :
    ∃ fuel, DataW.trod enc Tryd.prog W 0 (fun _ => true) true fuel t [v] = some (d, ps) := by
  obtain ⟨a, l, c, rfl⟩ := okWide_slice ht hval
  exact h
end
theorem reach_lt {n : Nat} (h : n ≤ reachBytes) : n < 2 ^ 62 := by
  unfold reachBytes at h
  omega

/-- A world for the witness: the table holds what the program's text lays. -/
noncomputable def laidWorld (os : Os) : World :=
  { World.holding Tryd.prog os ⟨#[], #[], []⟩ with heap := (World.holding Tryd.prog os ⟨#[], #[], []⟩).heap.modify 0 fun
      | .cells _ t frozen => .cells (Plain.tabL.map fun x => .int .u32 (x.toNat : Int)).toArray t frozen
      | o => o }
end Go.Proofs.YtaeoibnbbpgajaaDoor.Sx

namespace Go.Proofs.YtaeoibnbbpgajaaDoor.Keeps
open Go Go.ChangeShapes Go.WideShapes Go.ChangeAt Go.RowKit Sx

theorem contract (H : Type) (enc : TypeId × Value → H) (W : World) (base : Nat) (args : Array Value) (ds gs : List (DataW H)) (before : List MemPlace)
    (hval : ∀ (j : Nat) t v, Tryd.f9.params[j]? = some t → args[j]? = some v → Value.okWide Tryd.prog W .any base t v)
    (hW : DataW.Whole enc Tryd.prog Tryd.f9.params.toList Rows.crcKeepsSpec.vars false W args.toList ds gs before) (hw : (DataW.weightsEach Tryd.prog (Tryd.f9.params.toList ++ (OpenSpec.ofChange Rows.crcKeepsSpec).bare.plain.varTypes Tryd.prog) (ds ++ gs)).all (· ≤ reachBytes) = true) (hL : laidMetH Tryd.prog Rows.crcKeepsRow.laid W) :
    Calls Tryd.prog 9 args W fun e W' => ∃ v, e = .returned v ∧ Rows.crcKeepsSpec.post enc Tryd.prog Tryd.f9 false true false false W args v W' := by
  have hW' := hW
  obtain ⟨p, q, hA0, hV, rfl, hfz, hnd⟩ := hW
  have hA : DataW.TrodAll enc Tryd.prog W 0 (fun _ => true) true Tryd.f9.params.toList args.toList ds p := hA0
  rw [Tryd.params9] at hA hval
  obtain ⟨v0, vs0, d0, ds0, p0, q0, hargs, rfl, rfl, h0, r0⟩ := trodAll_cons hA
  obtain ⟨v1, vs1, d1, ds1, p1, q1, rfl, rfl, rfl, h1, r1⟩ := trodAll_cons r0
  obtain ⟨rfl, rfl, rfl⟩ := trodAll_nil r1
  obtain rfl : args = #[v0, v1] := by cases args; simp_all
  rw [Tryd.params9] at hw
  simp only [List.cons_append, List.nil_append, DataW.weightsEach, List.all_append, Bool.and_eq_true] at hw
  have hT : Tabs (allMem W) := tabs_of rfl hL
  obtain ⟨fuel0, hb0⟩ := trod_cells1 Tryd.underlying23 (hval 0 23 v0 rfl rfl) h0
  obtain ⟨A0, c0, l0, rfl, hB0, hl0, hc0, hk0⟩ := open_bytes hb0 hw.1
  obtain ⟨fuel1, hb1⟩ := trod_cells1 Tryd.underlying23 (hval 1 23 v1 rfl rfl) h1
  obtain ⟨A1, c1, l1, rfl, hB1, hl1, hc1, hk1⟩ := open_bytes hb1 hw.2.1
  refine (law_calls lawKeeps_ok ⟨A0, c0, l0, A1, c1, l1, allMem W⟩ ⟨hB0, hB1, hT, hl0, hl1⟩ (fun _ _ h => h) rfl rfl fun _ => rfl).mono fun e W' ⟨he, hbl⟩ => ⟨_, he, ?_⟩
  exact law_post hbl laidOut (by rw [Tryd.params9]; intro t ht; simp only [List.mem_cons, List.not_mem_nil, or_false] at ht; rcases ht with rfl | rfl <;> exact ⟨by kernel_rfl, of_decide_eq_true (by kernel_rfl)⟩) (by kernel_rfl) Tryd.underlying4 rfl
    (fun ds hd => by rw [Tryd.params9] at hd; match ds, hd with | [_, _], _ => rfl) hW'

theorem laid_met (os : Os) : laidMet Tryd.prog Rows.crcKeepsRow.laid ((laidWorld os).forCall (fun _ _ => 0) ⟨#[], #[.slice none 0 0, .slice none 0 0], []⟩).memory :=
  laidMet_of_run' 8 (by kernel_rfl) (by kernel_rfl)
theorem reads (os : Os) {H : Type} (enc : TypeId × Value → H) : ∃ places, DataW.whole enc Tryd.prog ((laidWorld os).forCall (fun _ _ => 0) ⟨#[], #[.slice none 0 0, .slice none 0 0], []⟩).memory Tryd.f9.params.toList Rows.crcKeepsSpec.vars false (#[.slice none 0 0, .slice none 0 0] : Array Value).toList 8 = some ([.nil, .nil], [], places) :=
  ⟨[], by kernel_rfl⟩
set_option maxRecDepth 100000 in
theorem lifted (os : Os) (started : os.Started) (H : Type) (enc : TypeId × Value → H) (F : Stop.Interp) :
    ReturnsInHanded {} Tryd.checked os 9 .any ((OpenSpec.ofChange Rows.crcKeepsSpec).preRow enc Tryd.prog Tryd.f9 Rows.crcKeepsRow.domain false Rows.crcKeepsRow.laid) (((OpenSpec.ofChange Rows.crcKeepsSpec).at F).post enc Tryd.prog Tryd.f9 false true false false) := by
  obtain ⟨places, hx⟩ := reads os enc
  refine returnsInHanded_of_row (C := Tryd.checked) (s := OpenSpec.ofChange Rows.crcKeepsSpec) own started (by kernel_rfl) Tryd.func9
    (witness_row_at (enc := enc) (C := Tryd.checked) false (laidWorld os) #[.slice none 0 0, .slice none 0 0] rfl (by kernel_rfl) (by kernel_rfl) (by kernel_rfl)
      (OpenSpec.preRow_of_cond 8 hx (by kernel_rfl) (fun k hk => by cases hk) (by kernel_rfl) (laid_met os))) ?_
  intro W base args ds gs before hval hW _ _ hw hL _ _
  exact contract H enc W base args ds gs before hval hW hw hL
theorem said : Rows.CrcKeepsSaid :=
  OpenClaim.holds_of_cond 9 Tryd.f9 rfl rfl rfl rfl rfl rfl rfl ⟨rfl, rfl, rfl, rfl, rfl⟩ rfl rfl rfl rfl rfl (by kernel_rfl) Tryd.func9 (by kernel_rfl)
    (of_decide_eq_true (by kernel_rfl)) (by unfold Func.isWrapper; first | (rw [if_pos (by decide +kernel)]; kernel_rfl) | (rw [if_neg (by decide +kernel)]; exact ⟨rfl, rfl⟩))
    (fun os started H enc _ F => by rw [OpenClaim.pre_eq_preRow]; exact lifted os started H enc F)
theorem plain (f : FuncId) (fn : Func) (hf : Tryd.pinned.checked.prog.funcNamed "quern/quernlaw02.CrcKeeps" = some f) (hfn : Tryd.pinned.checked.prog.funcs[f]? = some fn) :
    false = Tryd.pinned.checked.prog.looks [] ∧ ∀ (j : Nat) t, fn.params[j]? = some t → Tryd.pinned.checked.prog.wantsStandIn t = false := by
  obtain rfl : f = 9 := Option.some.inj ((show Tryd.prog.funcNamed "quern/quernlaw02.CrcKeeps" = some 9 by kernel_rfl).symm.trans hf) |>.symm
  obtain rfl : fn = Tryd.f9 := (Option.some.inj (Tryd.func9.symm.trans hfn)).symm
  refine ⟨by kernel_rfl, fun j t ht => ?_⟩
  rw [Tryd.params9] at ht
  have hm := Array.mem_of_getElem? ht
  simp only [List.mem_toArray, List.mem_cons, List.not_mem_nil, or_false] at hm
  rcases hm with rfl | rfl
  · exact (show Tryd.prog.wantsStandIn 23 = false by kernel_rfl)
  · exact (show Tryd.prog.wantsStandIn 23 = false by kernel_rfl)
/-- The card. -/
theorem card : Rows.CrcKeepsCardSaid :=
  Claim7.holds_tied_plain_at .later [] _ _ _ _ said (fun _ h => by cases h) (by kernel_rfl) (fun _ h => by cases h) crcKeeps_row_tie rfl ⟨rfl, rfl⟩ (by kernel_rfl) rfl plain (by kernel_rfl)
end Go.Proofs.YtaeoibnbbpgajaaDoor.Keeps
