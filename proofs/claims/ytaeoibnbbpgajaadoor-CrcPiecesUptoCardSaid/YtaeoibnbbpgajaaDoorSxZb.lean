/- Symbolic execution, twenty-eighth text: regions in no order, as the evaluator takes them. -/
import Derived.Test.YtaeoibnbbpgajaaDoorSxZa
namespace Go.Proofs.YtaeoibnbbpgajaaDoor.Sx

def endR (lv : List Nat) (K : Ex → St → Mem → Prop) (st : St) (m : Mem) : Prop := clean lv [] st.t fun t => withT st t [] fun st => K .normal st m
/-- All quiet: the text's order stands for every order. Else the head in every order, and the tail as the text has it. -/
def DPq (T : Tbl) (CP : CallP) (lv : List Nat) : List Oper → St → Mem → (Ex → St → Mem → Prop) → Prop := fun ops st m K => match Nat.beq (headN ops) ops.length with
  | true => Region.lexB .any ops.toArray = true ∧ runQ T ops m (fun st => endR lv K st m) ops st
  | false => Region.lexTailB .any ops.toArray (headN ops) = true ∧ runQ T ops m (fun st => runL T CP ops (fun x st m => withT st [] [] fun st => K (.panic x) st m) (endR lv K) (ops.drop (headN ops)) (headN ops) st m) (ops.take (headN ops)) st

theorem DPq_ok {P : Program} {T : Tbl} (hT : TOk P T) (hm : P.follows .mixedOrders = true) {CP : CallP} (hCP : CPOk P CP) {lv : List Nat} (B : Base) : DPOk P B (DPq T CP lv) := by
  intro id ops st m K h η a w Q hG hK
  have hG' : Good B ops.toList η m st a { w with drawn := w.drawn + 1 } := (hG.any _).drawn _
  have fin : ∀ η st m a w, endR lv K st m → Good B ops.toList η m st a w → Q .normal a w := by
    intro η st m a w h hG
    obtain ⟨t, h, ht⟩ := clean_sound h
    obtain ⟨sz, t0, gs, hp, nx⟩ := st
    refine hK _ η _ _ _ _ h ⟨hG.H, ⟨hG.T.sz, hG.T.df, fun k tag x hl => ?_, fun j g tg hl => by cases hl⟩⟩
    obtain ⟨rfl, _, hl'⟩ := ht k tag x hl
    exact hG.T.sl k [] x hl'
  have harr : ops.toList.toArray = ops := by simp
  unfold DPq at h
  split at h
  · obtain ⟨hB, h⟩ := h
    rw [harr] at hB
    exact wp_region_still hm hB (runQ_sound hT (fun st a h hG => fin _ _ _ _ _ h hG) h hG')
  · obtain ⟨hB, h⟩ := h
    have := wp_region_still_tail (P := P) (id := id) (Q := Q) (a := a) (w := w) (l := ops.toList) (headN ops.toList) hm hB
    rw [harr] at this
    refine this (runQ_sound hT (fun st a h hG => runL_sound hT hCP (fun η st m a w h hG => fin _ _ _ _ _ h hG) (fun x η st m a w h hG => ?_) h hG) h hG')
    obtain ⟨sz, t0, gs, hp, nx⟩ := st
    exact hK _ η _ _ _ _ h hG.bare
end Go.Proofs.YtaeoibnbbpgajaaDoor.Sx
