/- Symbolic execution, twenty-seventh text: regions in no order, of which the head leaves the world as it is. -/
import Derived.Test.YtaeoibnbbpgajaaDoorSxZ
import Derived.StillTail
namespace Go.Proofs.YtaeoibnbbpgajaaDoor.Sx

/-- A run of operations that look at no more than memory. -/
def runQ (T : Tbl) (ops : List Oper) (m : Mem) (K : St → Prop) : List Oper → St → Prop
  | [], st => K st
  | o :: rest, st =>
    match o.guard with
    | none => match o.op with
      | .pick c a b => pickV ops st [] c a b fun x => putS ops st o.dst [] x fun st => runQ T ops m K rest st
      | op => match isQuiet op with
        | true => quietV T st m [] op fun x => putS ops st o.dst [] x fun st => runQ T ops m K rest st
        | false => False
    | some (j, w) => match dstOf ops j with
      | none => False
      | some d => match look st.t d with
        | some (tg, .b g) =>
          addG st j g tg fun st => match o.op with
          | .pick c a b => pickV ops st ((j, w) :: tg) c a b fun x => putS ops st o.dst ((j, w) :: tg) x fun st => runQ T ops m K rest st
          | op => match isQuiet op with
            | true => quietV T st m ((j, w) :: tg) op fun x => putS ops st o.dst ((j, w) :: tg) x fun st => runQ T ops m K rest st
            | false => False
        | _ => False

/-- How many operations stand ahead of the first that is not quiet. -/
def headN : List Oper → Nat
  | [] => 0
  | o :: r => match o.op with
    | .pick .. => headN r + 1
    | op => match isQuiet op with
      | true => headN r + 1
      | false => 0

section
variable {P : Program} {T : Tbl} (hT : TOk P T) {B : Base} {η : Names} {m : Mem} {w : World}

theorem Good.drawn {l : List Oper} {st : St} {a : Act} (h : Good B l η m st a w) (d : Nat) : Good B l η m st a { w with drawn := d } :=
  ⟨⟨h.H.imm, fun n c hl => ⟨(h.H.ck n c hl).1, (h.H.ck n c hl).2.kept rfl (fun _ _ _ => rfl) (fun _ _ => rfl)⟩, h.H.own, h.H.apart, h.H.old, h.H.size, h.H.os, h.H.tape, h.H.output, h.H.mle, h.H.mnew, h.H.par⟩, h.T⟩

include hT in
theorem runQ_sound {ops : Array Oper} {K : St → Prop} {Q : Act → Prop} (hK : ∀ st a, K st → Good B ops.toList η m st a w → Q a) :
    ∀ {l : List Oper} {st : St} {a : Act}, runQ T ops.toList m K l st → Good B ops.toList η m st a w → wpStill P ops w Q l a
  | [], st, a, h, hG => hK _ _ h hG
  | o :: rest, st, a, h, hG => by
    simp only [runQ] at h
    have run : ∀ {K' : Act → Prop} {v : Value}, (execOp a.eval o).run P w = .ok (.value v) w → K' (a.put o.dst v) → o.still P a w K' := by
      intro K' v hr hk
      unfold Oper.still
      rw [hr]
      exact ⟨rfl, hk⟩
    split at h
    · rename_i hg
      refine wpStill_step fun K' hK' => ?_
      have hw : Region.wanted o (yielded ops a.tmps) = true := by simp only [Region.wanted, hg]
      rw [if_pos hw]
      have put : ∀ {x : SV}, (execOp a.eval o).run P w = .ok (.value (den η x)) w → (putS ops.toList st o.dst [] x fun st => runQ T ops.toList m K rest st) → o.still P a w K' := by
        intro x hr h
        obtain ⟨st', h, hG', _⟩ := putS_sound hG h (v := den η x) (by simp [tagB])
        exact run hr (hK' _ (runQ_sound hK h hG'))
      split at h
      · rename_i c x y ho
        obtain ⟨v, h, hv⟩ := pickV_sound (P := P) hG.T h ho
        exact put (hv w rfl) h
      · split at h
        · rename_i hq
          obtain ⟨x, h, hx⟩ := quietV_sound hT hG.T hq h
          exact put (hx w hG.H.hq rfl) h
        · exact h.elim
    · rename_i j w0 hg
      split at h
      case h_1 => exact h.elim
      rename_i d hd
      split at h
      case h_2 => exact h.elim
      rename_i tg g hl
      obtain ⟨st1, h, hG1, ht1, hg1, htag1⟩ := addG_sound hG hd hl h
      have hwant := wanted_eq hG1.T hg hd (by rw [ht1]; exact hl)
      have htag : tagB st1.gs ((j, w0) :: tg) = (tagB st1.gs tg && (g == w0)) := by
        simp only [tagB, hg1]
        exact Bool.and_comm _ _
      rw [← htag] at hwant
      have fin : ∀ {x : SV}, (tagB st1.gs ((j, w0) :: tg) = true → (execOp a.eval o).run P w = .ok (.value (den η x)) w) → (putS ops.toList st1 o.dst ((j, w0) :: tg) x fun st => runQ T ops.toList m K rest st) → wpStill P ops w Q (o :: rest) a := by
        intro x hx h
        refine wpStill_step fun K' hK' => ?_
        obtain ⟨st', h, hG', _⟩ := putS_sound hG1 h rfl
        rw [hwant]
        cases ht : tagB st1.gs ((j, w0) :: tg) with
        | true =>
          rw [if_pos rfl]
          rw [ht, if_pos rfl] at hG'
          exact run (hx ht) (hK' _ (runQ_sound hK h hG'))
        | false =>
          rw [if_neg (by decide)]
          rw [ht, if_neg (by decide)] at hG'
          exact hK' _ (runQ_sound hK h hG')
      split at h
      · rename_i c x y ho
        obtain ⟨v, h, hv⟩ := pickV_sound (P := P) hG1.T h ho
        exact fin (hv w) h
      · split at h
        · rename_i hq
          obtain ⟨x, h, hx⟩ := quietV_sound hT hG1.T hq h
          exact fin (hx w hG1.H.hq) h
        · exact h.elim
end
end Go.Proofs.YtaeoibnbbpgajaaDoor.Sx
