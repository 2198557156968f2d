/- The arguments of the statements, opened: nodes, messages, entries. Then: From what is told of a statement's function to the statement's contract: it answers true, and every argument reads as it read. What the statements' claims need besides: a world for the witness. -/
import Derived.Test.YtjpjiniclibgkaaSafeC
import Derived.Deep.Slices
import Derived.ChangeArms
import Derived.OpenShut
import Derived.Test.YtjpjiniclibgkaaSafeB
import Derived.Carry
import Derived.ChangeSame
import Derived.Deep.DeepHandedRow
import Derived.Test.YtjpjiniclibgkaaRows
import Derived.Lib.LaidTab
namespace Go.Proofs.Ytjpjiniclibgkaa.Sx
open Go Go.ChangeShapes Go.WideShapes Go.RowKit

theorem cells3 : Try.prog.cellsOf 3 = 1 := by kernel_rfl
theorem cells4 : Try.prog.cellsOf 4 = 1 := by kernel_rfl
theorem cells9 : Try.prog.cellsOf 9 = 1 := by kernel_rfl
theorem cells22 : Try.prog.cellsOf 22 = 1 := by kernel_rfl
theorem cells24 : Try.prog.cellsOf 24 = 6 := by kernel_rfl
theorem cells25 : Try.prog.cellsOf 25 = 7 := by kernel_rfl
theorem cells27 : Try.prog.cellsOf 27 = 26 := by kernel_rfl
theorem cells29 : Try.prog.cellsOf 29 = 10 := by kernel_rfl
theorem cells42 : Try.prog.cellsOf 42 = 5 := by kernel_rfl
theorem cells44 : Try.prog.cellsOf 44 = 6 := by kernel_rfl
theorem und3 : Try.prog.underlying 3 = some (.int .i64) := by kernel_rfl
theorem und4 : Try.prog.underlying 4 = some .bool := by kernel_rfl
theorem und9 : Try.prog.underlying 9 = some .string := by kernel_rfl
theorem und22 : Try.prog.underlying 22 = some (.slice 44) := by kernel_rfl
theorem und24 : Try.prog.underlying 24 = some (.struct fs24) := by kernel_rfl
theorem und25 : Try.prog.underlying 25 = some (.array 7 3) := by kernel_rfl
theorem und27 : Try.prog.underlying 27 = some (.struct fs27) := by kernel_rfl
theorem und29 : Try.prog.underlying 29 = some (.struct fs29) := by kernel_rfl
theorem und42 : Try.prog.underlying 42 = some (.struct fs42) := by kernel_rfl
theorem und44 : Try.prog.underlying 44 = some (.struct fs44) := by kernel_rfl
theorem bytes44 : Try.prog.bytesOf 44 = 56 := by kernel_rfl

/-- All that a world's memory holds, as memory that stays. -/
def allMem (W : World) : Mem := fun b => W.heap[b]?
theorem mcell_all {W : World} {a : Addr} {v : Value} (h : W.cell? a = some v) (hs : a.spot = none) : mcell (allMem W) a = some v := by
  unfold World.cell? at h
  unfold mcell allMem
  cases hb : W.heap[a.block]? with
  | none => rw [hb] at h; simp at h
  | some o =>
    rw [hb] at h
    cases o <;> simp_all
theorem add_spot {W : World} {a : Addr} {j : Nat} {v : Value} (h : W.cell? (a.add j) = some v) : (a.add j).spot = none := by
  unfold World.cell? at h
  cases hs : (a.add j).spot with
  | none => rfl
  | some x =>
    rw [hs] at h
    split at h <;> simp_all
theorem wf_fits {n : Int} (h : (Lit.int .i64 n).wf = true) : fits n := by
  have := bounds_i64 h
  exact ⟨by omega, by omega⟩
theorem cut (l : List Value) (o k : Nat) : l.drop o = (l.drop o).take k ++ l.drop (o + k) := by
  rw [← List.drop_drop, List.take_append_drop]
theorem itemsV_get {xs : List Item} {i : Nat} {y : Item} (h : xs[i]? = some y) {o : Nat} (ho : o < 6) : (itemsV xs)[i * 6 + o]? = (itemV y)[o]? := by
  have := congrArg (fun l => l[o]?) (itemsV_at h 0 6 (by omega))
  simp only [List.getElem?_take, List.getElem?_drop, ho, if_true, Nat.add_zero, List.drop_zero] at this
  exact this
theorem three {α : Type} {l : List α} {k : Nat} (h : l.length = k) (hk : 3 ≤ k) : ∃ a b c r, l = a :: b :: c :: r := by
  match l, h with
  | [], h => simp at h; omega
  | [_], h => simp at h; omega
  | [_, _], h => simp at h; omega
  | a :: b :: c :: r, _ => exact ⟨a, b, c, r, rfl⟩
theorem six {α : Type} {l : List α} (h : l.length = 6) : ∃ a b c d e f, l = [a, b, c, d, e, f] := by
  match l, h with
  | [a, b, c, d, e, f], _ => exact ⟨a, b, c, d, e, f, rfl⟩
theorem nine {α : Type} {l : List α} {k : Nat} (h : l.length = k) (hk : 9 ≤ k) : ∃ a b c d e f g i j r, l = a :: b :: c :: d :: e :: f :: g :: i :: j :: r := by
  obtain ⟨a, b, c, r, rfl⟩ := three h (by omega)
  obtain ⟨d, e, f, r2, rfl⟩ := three (l := r) (k := k - 3) (by simp at h; omega) (by omega)
  obtain ⟨g, i, j, r3, rfl⟩ := three (l := r2) (k := k - 6) (by simp at h; omega) (by omega)
  exact ⟨a, b, c, d, e, f, g, i, j, r3, rfl⟩
section
variable {H : Type} {enc : TypeId × Value → H} {W : World} {fuel : Nat} {cs : List Value} {x : DataW H × List MemPlace}
/-- A field, opened. -/
theorem field_of {t : TypeId} {fs : Array Field} (ht : Try.prog.underlying t = some (.struct fs)) (h : DataW.trod enc Try.prog W 0 (fun _ => true) true fuel t cs = some x) :
    cs.length = Try.prog.cellsOf t ∧ ∃ (n : Nat) (ds : List (DataW H)), x.1 = .agg ds ∧ ds.length = fs.size ∧ ∀ (i : Nat) (f : Field) (o k : Nat), fs[i]? = some f → f.offset = o → Try.prog.cellsOf f.type = k → ∃ y, DataW.trod enc Try.prog W 0 (fun _ => true) true n f.type ((cs.drop o).take k) = some y ∧ ds[i]? = some y.1 := by
  obtain ⟨xs, n, _, rfl, hl, hlen, hf⟩ := DataW.trod_struct ht h
  refine ⟨hl, n, xs.map (·.1), rfl, by rw [List.length_map, hlen], fun i f o k hi ho hk => ?_⟩
  subst ho hk
  have hix : i < xs.length := by rw [hlen]; exact (Array.getElem?_eq_some_iff.1 hi).1
  have := hf i f hi
  rw [List.getElem?_eq_getElem hix] at this
  exact ⟨_, this, by rw [List.getElem?_map, List.getElem?_eq_getElem hix]; rfl⟩
theorem int_of (h : DataW.trod enc Try.prog W 0 (fun _ => true) true fuel 3 cs = some x) : ∃ n, cs = [.int .i64 n] ∧ fits n := by
  obtain ⟨n, h1, _, h3⟩ := DataW.trod_int und3 h
  exact ⟨n, h1, wf_fits h3⟩
theorem str_of (h : DataW.trod enc Try.prog W 0 (fun _ => true) true fuel 9 cs = some x) : ∃ s, cs = [.string s] := by
  obtain ⟨s, h1, _⟩ := DataW.trod_string und9 h
  exact ⟨s, h1⟩
theorem open_entry (h : DataW.trod enc Try.prog W 0 (fun _ => true) true fuel 42 cs = some x) : ∃ e : Entry, cs = [.int .i64 e.kind, .int .i64 e.version, .int .i64 e.client, .int .i64 e.seq, .string e.data] := by
  obtain ⟨hl, n, ds, _, _, hf⟩ := field_of und42 h
  rw [cells42] at hl
  obtain ⟨_, h0, _⟩ := hf 0 _ 0 1 rfl rfl cells3
  obtain ⟨_, h1, _⟩ := hf 1 _ 1 1 rfl rfl cells3
  obtain ⟨_, h2, _⟩ := hf 2 _ 2 1 rfl rfl cells3
  obtain ⟨_, h3, _⟩ := hf 3 _ 3 1 rfl rfl cells3
  obtain ⟨_, h4, _⟩ := hf 4 _ 4 1 rfl rfl cells9
  obtain ⟨a, ha, _⟩ := int_of h0
  obtain ⟨b, hb, _⟩ := int_of h1
  obtain ⟨c, hc, _⟩ := int_of h2
  obtain ⟨d, hd, _⟩ := int_of h3
  obtain ⟨s, hs⟩ := str_of h4
  refine ⟨⟨a, b, c, d, s⟩, ?_⟩
  rw [show cs = cs.drop 0 from rfl, cut cs 0 1, ha, cut cs 1 1, hb, cut cs 2 1, hc, cut cs 3 1, hd, cut cs 4 1, hs, List.drop_eq_nil_of_le (by omega)]
  rfl
theorem open_item (h : DataW.trod enc Try.prog W 0 (fun _ => true) true fuel 44 cs = some x) : ∃ y : Item, cs = itemV y := by
  obtain ⟨hl, n, ds, _, _, hf⟩ := field_of und44 h
  rw [cells44] at hl
  obtain ⟨_, h0, _⟩ := hf 0 _ 0 1 rfl rfl cells3
  obtain ⟨_, h1, _⟩ := hf 1 _ 1 5 rfl rfl cells42
  obtain ⟨a, ha, _⟩ := int_of h0
  obtain ⟨e, he⟩ := open_entry h1
  refine ⟨⟨a, e⟩, ?_⟩
  rw [show cs = cs.drop 0 from rfl, cut cs 0 1, ha, cut cs 1 5, he, List.drop_eq_nil_of_le (by omega)]
  rfl
theorem open_items (h : DataW.trod enc Try.prog W 0 (fun _ => true) true fuel 22 cs = some x) (hw : (x.1.weights Try.prog 22).all (· ≤ reachBytes) = true) :
    ∃ (A : Option Addr) (c : Nat) (xs : List Item), cs = [.slice A xs.length c] ∧ Cells (allMem W) A (itemsV xs) ∧ xs.length ≤ c ∧ xs.length < 2 ^ 62 := by
  rcases Go.Deep.open_slice und22 h with ⟨hcs, _⟩ | ⟨a, len, cap, m, n, D, Pl, hcs, _, hl, hm, hmm, hx, hall⟩
  · exact ⟨none, 0, [], hcs, (fun j v hj => by cases hj), Nat.le_refl _, by decide⟩
  · simp only [if_true] at hmm
    subst hmm
    subst hx
    simp only [DataW.weights, und22, bytes44, List.all_cons, Bool.and_eq_true, decide_eq_true_eq, List.length_map, List.length_range] at hw
    have hb : len < 2 ^ 62 := by have := hw.1; unfold reachBytes at this; omega
    have each : ∀ i, ∃ y : Item, i < len → W.cells? 0 (a.add (i * 6)) 6 = some (itemV y) := by
      intro i
      by_cases hi : i < len
      · obtain ⟨cs', h1, h2⟩ := hall i (by omega)
        obtain ⟨y, rfl⟩ := open_item h2
        rw [cells44] at h1
        exact ⟨y, fun _ => h1⟩
      · exact ⟨⟨0, ⟨0, 0, 0, 0, ByteArray.empty⟩⟩, fun h => absurd h hi⟩
    obtain ⟨f, hf⟩ := Classical.axiomOfChoice each
    have hlen : ((List.range len).map f).length = len := by simp
    refine ⟨some a, m, (List.range len).map f, by rw [hlen]; exact hcs, fun j v hj => ⟨a, rfl, ?_⟩, by rw [hlen]; exact hl, by rw [hlen]; exact hb⟩
    have hjl := (List.getElem?_eq_some_iff.1 hj).1
    rw [itemsV_len, hlen] at hjl
    obtain ⟨i, o, hio, ho⟩ : ∃ i o, j = i * 6 + o ∧ o < 6 := ⟨j / 6, j % 6, by omega, by omega⟩
    have hi : i < len := by omega
    have hc := hf i hi
    have hcell := (World.cells?_some hc).2.2 o ho
    have hxi : ((List.range len).map f)[i]? = some (f i) := by rw [List.getElem?_map, List.getElem?_range hi]; rfl
    rw [hio, itemsV_get hxi ho] at hj
    rw [add_add, ← hio, hj] at hcell
    exact mcell_all hcell (add_spot hcell)
theorem open_log (h : DataW.trod enc Try.prog W 0 (fun _ => true) true fuel 24 cs = some x) (hw : (x.1.weights Try.prog 24).all (· ≤ reachBytes) = true) :
    ∃ (l : Log) (A : Option Addr) (c : Nat), cs = dens η0 (logC l (.sl A l.items.length c)) ∧ Cells (allMem W) A (itemsV l.items) ∧ l.items.length ≤ c ∧ l.items.length < 2 ^ 62 ∧ fits l.base := by
  obtain ⟨hl, n, ds, hx, hdl, hf⟩ := field_of und24 h
  rw [cells24] at hl
  obtain ⟨_, h0, _⟩ := hf 0 _ 0 1 rfl rfl cells3
  obtain ⟨_, h1, _⟩ := hf 1 _ 1 1 rfl rfl cells3
  obtain ⟨_, h2, _⟩ := hf 2 _ 2 1 rfl rfl cells3
  obtain ⟨_, h3, _⟩ := hf 3 _ 3 1 rfl rfl cells3
  obtain ⟨_, h4, _⟩ := hf 4 _ 4 1 rfl rfl cells9
  obtain ⟨y5, h5, hy5⟩ := hf 5 _ 5 1 rfl rfl cells22
  obtain ⟨a, ha, _⟩ := int_of h0
  obtain ⟨b, hb, _⟩ := int_of h1
  obtain ⟨c, hc, hcf⟩ := int_of h2
  obtain ⟨d, hd, _⟩ := int_of h3
  obtain ⟨s, hs⟩ := str_of h4
  rw [hx] at hw
  obtain ⟨A, cap, xs, he, hM, hle, hlt⟩ := open_items h5 (by
    obtain ⟨d0, d1, d2, d3, d4, d5, rfl⟩ := six hdl
    cases hy5
    simp only [DataW.weights, und24, fs24, List.map, DataW.weightsEach, List.all_append, Bool.and_eq_true] at hw
    exact hw.2.2.2.2.2.1)
  refine ⟨⟨a, b, c, d, s, xs⟩, A, cap, ?_, hM, hle, hlt, hcf⟩
  rw [show cs = cs.drop 0 from rfl, cut cs 0 1, ha, cut cs 1 1, hb, cut cs 2 1, hc, cut cs 3 1, hd, cut cs 4 1, hs, cut cs 5 1, he, List.drop_eq_nil_of_le (by omega)]
  rfl
theorem open_arr (h : DataW.trod enc Try.prog W 0 (fun _ => true) true fuel 25 cs = some x) : ∃ f : Nat → Int, cs = ints 7 .i64 f := by
  obtain ⟨xs, m, _, _, hlen, hxl, hall⟩ := DataW.trod_array und25 h
  rw [cells25] at hlen
  have each : ∀ i, ∃ b : Int, i < 7 → cs[i]? = some (.int .i64 b) := by
    intro i
    by_cases hi : i < 7
    · have h1 := hall i hi
      rw [cells3, Nat.mul_one, List.getElem?_eq_getElem (by omega)] at h1
      obtain ⟨n, hn1, _⟩ := int_of h1
      refine ⟨n, fun _ => ?_⟩
      have h2 := congrArg (fun l => l[0]?) hn1
      simpa [List.getElem?_take, List.getElem?_drop] using h2
    · exact ⟨0, fun h => absurd h hi⟩
  obtain ⟨f, hf⟩ := Classical.axiomOfChoice each
  refine ⟨f, List.ext_getElem? fun i => ?_⟩
  by_cases hi : i < 7
  · rw [hf i hi]
    simp [ints, hi]
  · rw [List.getElem?_eq_none (by omega), List.getElem?_eq_none (by simp [ints]; omega)]
theorem open_node (h : DataW.trod enc Try.prog W 0 (fun _ => true) true fuel 27 cs = some x) (hw : (x.1.weights Try.prog 27).all (· ≤ reachBytes) = true) :
    ∃ (n : Node) (A : Option Addr) (c : Nat), cs = dens η0 (nodeC n (.sl A n.log.items.length c)) ∧ Cells (allMem W) A (itemsV n.log.items) ∧ n.log.items.length ≤ c ∧ n.log.items.length < 2 ^ 62 ∧ fits n.log.base ∧ fits n.me ∧ fits n.size := by
  obtain ⟨hl, n, ds, hx, hdl, hf⟩ := field_of und27 h
  rw [cells27] at hl
  obtain ⟨_, h0, _⟩ := hf 0 _ 0 1 rfl rfl cells3
  obtain ⟨_, h1, _⟩ := hf 1 _ 1 1 rfl rfl cells3
  obtain ⟨y2, h2, hy2⟩ := hf 2 _ 2 6 rfl rfl cells24
  obtain ⟨_, h3, _⟩ := hf 3 _ 8 1 rfl rfl cells3
  obtain ⟨_, h4, _⟩ := hf 4 _ 9 1 rfl rfl cells3
  obtain ⟨_, h5, _⟩ := hf 5 _ 10 1 rfl rfl cells3
  obtain ⟨_, h6, _⟩ := hf 6 _ 11 1 rfl rfl cells3
  obtain ⟨_, h7, _⟩ := hf 7 _ 12 7 rfl rfl cells25
  obtain ⟨_, h8, _⟩ := hf 8 _ 19 7 rfl rfl cells25
  obtain ⟨a, ha, haf⟩ := int_of h0
  obtain ⟨b, hb, hbf⟩ := int_of h1
  obtain ⟨r, hr, _⟩ := int_of h3
  obtain ⟨d, hd, _⟩ := int_of h4
  obtain ⟨e, he, _⟩ := int_of h5
  obtain ⟨v, hv, _⟩ := int_of h6
  obtain ⟨f, hf7⟩ := open_arr h7
  obtain ⟨g, hg⟩ := open_arr h8
  rw [hx] at hw
  obtain ⟨l, A, cap, hlog, hM, hle, hlt, hfb⟩ := open_log h2 (by
    obtain ⟨d0, d1, d2, ds, rfl⟩ := three hdl (by decide)
    cases hy2
    simp only [DataW.weights, und27, fs27, List.map, DataW.weightsEach, List.all_append, Bool.and_eq_true] at hw
    exact hw.2.2.1)
  refine ⟨⟨a, b, l, r, d, e, v, f, g⟩, A, cap, ?_, hM, hle, hlt, hfb, haf, hbf⟩
  rw [show cs = cs.drop 0 from rfl, cut cs 0 1, ha, cut cs 1 1, hb, cut cs 2 6, hlog, cut cs 8 1, hr, cut cs 9 1, hd, cut cs 10 1, he, cut cs 11 1, hv, cut cs 12 7, hf7, cut cs 19 7, hg, List.drop_eq_nil_of_le (by omega)]
  rfl
theorem open_msg (h : DataW.trod enc Try.prog W 0 (fun _ => true) true fuel 29 cs = some x) (hw : (x.1.weights Try.prog 29).all (· ≤ reachBytes) = true) :
    ∃ (k : Msg) (A : Option Addr) (c : Nat), cs = dens η0 (msgC k (.sl A k.items.length c)) ∧ Cells (allMem W) A (itemsV k.items) ∧ k.items.length ≤ c ∧ k.items.length < 2 ^ 62 := by
  obtain ⟨hl, n, ds, hx, hdl, hf⟩ := field_of und29 h
  rw [cells29] at hl
  obtain ⟨_, h0, _⟩ := hf 0 _ 0 1 rfl rfl cells3
  obtain ⟨_, h1, _⟩ := hf 1 _ 1 1 rfl rfl cells3
  obtain ⟨_, h2, _⟩ := hf 2 _ 2 1 rfl rfl cells3
  obtain ⟨_, h3, _⟩ := hf 3 _ 3 1 rfl rfl cells3
  obtain ⟨_, h4, _⟩ := hf 4 _ 4 1 rfl rfl cells3
  obtain ⟨_, h5, _⟩ := hf 5 _ 5 1 rfl rfl cells3
  obtain ⟨_, h6, _⟩ := hf 6 _ 6 1 rfl rfl cells3
  obtain ⟨_, h7, _⟩ := hf 7 _ 7 1 rfl rfl cells4
  obtain ⟨y8, h8, hy8⟩ := hf 8 _ 8 1 rfl rfl cells22
  obtain ⟨_, h9, _⟩ := hf 9 _ 9 1 rfl rfl cells9
  obtain ⟨a0, e0, _⟩ := int_of h0
  obtain ⟨a1, e1, _⟩ := int_of h1
  obtain ⟨a2, e2, _⟩ := int_of h2
  obtain ⟨a3, e3, _⟩ := int_of h3
  obtain ⟨a4, e4, _⟩ := int_of h4
  obtain ⟨a5, e5, _⟩ := int_of h5
  obtain ⟨a6, e6, _⟩ := int_of h6
  obtain ⟨a7, e7, _⟩ := DataW.trod_bool und4 h7
  obtain ⟨a9, e9⟩ := str_of h9
  rw [hx] at hw
  obtain ⟨A, cap, xs, e8, hM, hle, hlt⟩ := open_items h8 (by
    obtain ⟨d0, d1, d2, d3, d4, d5, d6, d7, d8, ds, rfl⟩ := nine hdl (by decide)
    cases hy8
    simp only [DataW.weights, und29, fs29, List.map, DataW.weightsEach, List.all_append, Bool.and_eq_true] at hw
    exact hw.2.2.2.2.2.2.2.2.1)
  refine ⟨⟨a0, a1, a2, a3, a4, a5, a6, a7, xs, a9⟩, A, cap, ?_, hM, hle, hlt⟩
  rw [show cs = cs.drop 0 from rfl, cut cs 0 1, e0, cut cs 1 1, e1, cut cs 2 1, e2, cut cs 3 1, e3, cut cs 4 1, e4, cut cs 5 1, e5, cut cs 6 1, e6, cut cs 7 1, e7, cut cs 8 1, e8, cut cs 9 1, e9, List.drop_eq_nil_of_le (by omega)]
  rfl
theorem agg_of {t : TypeId} {fs : Array Field} (ht : Try.prog.underlying t = some (.struct fs)) {base : Nat} {v : Value} (hval : Value.okWide Try.prog W .any base t v) : ∃ cs, v = .agg cs := by
  simp only [Value.okWide, ht] at hval
  obtain ⟨cs, h1, _⟩ := hval
  exact ⟨cs, h1⟩
end
end Go.Proofs.Ytjpjiniclibgkaa.Sx

namespace Go.Proofs.Ytjpjiniclibgkaa.Sx
open Go.RowKit Go.ChangeShapes Go.WideShapes Go.ChangeAt

theorem below_of_hold {W W' : World} {J m : Mem} {k0 : Nat} {η1 η : Names} {h : Heap} {nx : Nat} (hH : Hold ⟨W, [], J, k0, η1⟩ η m h nx W') : Below W.heap.size W W' :=
  ⟨hH.os, hH.tape, hH.output, hH.size, fun k hk => hH.old k hk (by simp)⟩

/-- A call of a function of which something is told, in a world that holds what is asked. -/
theorem law_calls {P : Program} {f : FuncId} {s : Spec} (hok : SpecOk P f s) (a : s.A) (hR : s.R a) {W : World} (hJ : ∀ b o, s.J a b = some o → W.heap[b]? = some o) (hh : s.h a = []) 
    {args : Array Value} (hargs : dent η0 (s.args a) = args.toList) (hout : ∀ b, s.out a b = .ret (.b true)) :
    Calls P f args W fun e W' => e = .returned (.bool true) ∧ Below W.heap.size W W' := by
  have h := hok.2 a hR ⟨W, [], s.J a, s.nx, η0⟩ η0 W rfl rfl rfl rfl (by
    rw [hh]
    exact ⟨hJ, (fun _ _ h => by cases h), (fun _ _ _ h => by cases h), (fun _ _ _ _ _ h => by cases h), fun _ _ _ => rfl, Nat.le_refl _, rfl, rfl, rfl, fun _ _ h => h, fun _ _ h => .inl h, Nat.le_refl _, fun _ _ => rfl⟩)
  rw [hargs, Array.toArray_toList] at h
  refine h.mono fun e W' ⟨b, η', _, hH, he⟩ => ⟨?_, below_of_hold hH⟩
  rw [he, hout]
  rfl

section
variable {H : Type} {enc : TypeId × Value → H} {P : Program}

theorem trodAll_length {w : World} {base : Nat} {sp : Nat → Bool} {hd : Bool} : ∀ {ts : List TypeId} {vs : List Value} {ds : List (DataW H)} {ps : List MemPlace}, DataW.TrodAll enc P w base sp hd ts vs ds ps → ds.length = ts.length
  | [], [], [], _, _ => rfl
  | _ :: _, _ :: _, _ :: _, _, ⟨_, _, _, h, _⟩ => by simp [trodAll_length h]

theorem trodAll_stays (hl : laidOutB P = true) {W W' : World} (hb : Below W.heap.size W W') {sp : Nat → Bool} : ∀ {ts : List TypeId} {vs : List Value} {ds : List (DataW H)} {ps : List MemPlace},
    (∀ t ∈ ts, P.readableRec t = true ∧ t < P.types.size) → DataW.TrodAll enc P W 0 (fun _ => true) true ts vs ds ps → (∀ x ∈ ps, x.block < W.heap.size ∧ sp x.block = true) → DataW.TrodAll enc P W' 0 sp true ts vs ds ps
  | [], [], [], _, _, h, _ => h
  | t :: ts, v :: vs, d :: ds, ps, ht, ⟨p, q, h1, h2, e⟩, hlt => by
    subst e
    exact ⟨p, q, WideElems.Trod_stays hl (ht t (.head _)).1 (ht t (.head _)).2 h1 (fun x hx => hb.same (hlt x (List.mem_append_left _ hx)).1) (fun x hx => (hlt x (List.mem_append_left _ hx)).2),
      trodAll_stays hl hb (fun u hu => ht u (.tail _ hu)) h2 (fun x hx => hlt x (List.mem_append_right _ hx)), rfl⟩

theorem below_kept {W W' : World} (hb : Below W.heap.size W W') (may : MemPlace → Prop) : W.keptBut W' may := by
  refine ⟨hb.os, hb.output, fun i hi => ?_⟩
  rw [hb.block i hi]
  split
  · rename_i h1 h2
    rw [h1] at h2
    cases h2
    exact ⟨rfl, rfl, rfl, fun _ _ => rfl⟩
  · rename_i h1 h2
    rw [h1] at h2
    cases h2
    exact .inr ⟨rfl, rfl⟩
  · rfl

/-- What a statement asks behind a call that answers true and leaves what there was. -/
theorem law_post {fn : Func} {sp : ChangeSpec} {W W' : World} {args : Array Value} {ds gs : List (DataW H)} {before : List MemPlace} (hb : Below W.heap.size W W') (hl : laidOutB P = true)
    (hr : ∀ t ∈ fn.params.toList, P.readableRec t = true ∧ t < P.types.size) {tb : TypeId} (hres : fn.resultTypes = #[tb]) (htb : P.underlying tb = some .bool) (hvars : sp.vars = [])
    (hfn : ∀ ds : List (DataW H), ds.length = fn.params.size → sp.fn H ds = { results := [.lit (.bool true)], args := ds })
    (hW : DataW.Whole enc P fn.params.toList sp.vars false W args.toList ds gs before) : sp.post enc P fn false true false false W args (.bool true) W' := by
  have hW' := hW
  obtain ⟨p, q, hA, hV, rfl, hz, hn⟩ := hW
  rw [hvars] at hV
  obtain ⟨rfl, rfl⟩ := trodVars_none hV
  have hlen : (ds ++ []).length = fn.params.size := by rw [List.append_nil, trodAll_length hA, Array.length_toList]
  refine ⟨ds, [], p ++ [], [], p, [], hW', ?_, ?_, ?_, below_kept hb _, fun h => by cases h⟩
  · rw [hfn _ hlen, hres]
    exact trodAll_mk1 (shut_bool htb true)
  · rw [hfn _ hlen, List.append_nil]
    exact trodAll_stays hl hb hr hA fun x hx => by
      have := hW'.lt x (List.mem_append_left _ hx)
      exact ⟨this, by simpa using this⟩
  · rw [hfn _ hlen, hvars]
    rfl
end
end Go.Proofs.Ytjpjiniclibgkaa.Sx

namespace Go.Proofs.Ytjpjiniclibgkaa.Sx
open Go Go.ChangeShapes Go.WideShapes Go.ChangeAt Go.RowKit

theorem own : ownKnob Try.prog.godebug = none := by kernel_rfl
theorem laidOut : laidOutB Try.prog = true := by kernel_rfl
noncomputable def laidWorld (os : Os) : World := World.holding Try.prog os ⟨#[], #[], []⟩
theorem arr_of {cs : Array Value} {l : List Value} (h : cs.toList = l) : cs = l.toArray := by rw [← h, Array.toArray_toList]
theorem laid_none (os : Os) (args : Array Value) : laidMet Try.prog [] ((laidWorld os).forCall (fun _ _ => 0) ⟨#[], args, []⟩).memory := by
  first | exact laidMet_nil .. | trivial | (intro x hx; cases hx) | (unfold laidMet; simp) | skip
end Go.Proofs.Ytjpjiniclibgkaa.Sx
