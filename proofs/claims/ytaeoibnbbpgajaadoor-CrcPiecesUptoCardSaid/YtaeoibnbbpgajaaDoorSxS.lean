/- Symbolic execution, nineteenth text: runs of operations are evaluated rightly. -/
import Derived.Test.YtaeoibnbbpgajaaDoorSxR
namespace Go.Proofs.YtaeoibnbbpgajaaDoor.Sx

theorem lastT_none : ∀ {tag : Tag}, lastT tag = none → tag = []
  | [], _ => rfl
  | [_], h => by cases h
  | _ :: y :: r, h => by have := lastT_none (tag := y :: r) h; cases this

section
variable {P : Program} {T : Tbl} (hT : TOk P T) {B : Base} {η : Names} {m : Mem} {st : St} {a : Act} {w : World}

theorem splitG_sound {l : List Oper} {d : Option Nat} {go skip : St → Mem → Prop} : ∀ {f : Nat} {tag : Tag} {st : St}, splitG l d go skip f tag st m → Good B l η m st a w →
    (tagB st.gs tag = true → ∃ st', go st' m ∧ Good B l η m st' a w) ∧ (tagB st.gs tag = false → ∃ st', skip st' m ∧ Good B l η m st' (a.put d undef) w)
  | 0, _, _, h, _ => h.elim
  | f + 1, tag, st, h, hG => by
    simp only [splitG] at h
    split at h
    · rename_i hl
      obtain rfl := lastT_none hl
      exact ⟨fun _ => ⟨st, h, hG⟩, fun h => by cases h⟩
    · rename_i j w0 hl
      split at h
      case h_2 => exact h.elim
      rename_i g tj hg
      obtain ⟨h1, h2⟩ := h
      have step : ∀ (b : Bool) {K : List Slot → Gs → Prop}, g = b → (settle j b st.t fun t => settleG j b st.gs fun gs => chk t gs (K t gs)) →
          ∃ t gs, K t gs ∧ Good B l η m ⟨st.sz, t, gs, st.h, st.nx⟩ a w ∧ (∀ tag, tagIn gs tag = true → tagB gs tag = tagB st.gs tag) := by
        intro b K hb hs
        subst hb
        obtain ⟨t, hs, ht⟩ := settle_sound hs
        obtain ⟨gs, hs, hgs⟩ := settleG_sound hs
        obtain ⟨hi, _, hs⟩ := chk_out hs
        obtain ⟨hg1, hg2⟩ := settle_good hG hg ht hgs hi
        exact ⟨t, gs, hs, hg1, hg2⟩
      have fin : ∀ (b : Bool), g = b → w0 = b → (∀ {K : List Slot → Gs → Prop}, K = (fun t gs => match settleTag j b tag with
            | some tag' => (match tagIn gs tag' with
              | true => withT st t gs fun st => splitG l d go skip f tag' st m
              | false => False)
            | none => False) → (settle j b st.t fun t => settleG j b st.gs fun gs => chk t gs (K t gs)) →
          (tagB st.gs tag = true → ∃ st', go st' m ∧ Good B l η m st' a w) ∧ (tagB st.gs tag = false → ∃ st', skip st' m ∧ Good B l η m st' (a.put d undef) w)) := by
        intro b hb hw K hK hs
        obtain ⟨t, gs, hk, hG', hsame⟩ := step b hb hs
        subst hK
        split at hk
        case h_2 => exact hk.elim
        rename_i tag' hst
        split at hk
        case h_2 => exact hk.elim
        rename_i hin
        have hj : lookG st.gs j = some (b, tj) := by rw [hg, hb]
        have heq : tagB st.gs tag = tagB gs tag' := by
          rw [settleTag_sound hj (tag := tag), hst]
          exact (hsame tag' hin).symm
        rw [heq]
        obtain ⟨sz, t0, gs0, hp, nx⟩ := st
        exact splitG_sound hk hG'
      have fin2 : ∀ (b : Bool), g = b → w0 ≠ b → (∀ {K : List Slot → Gs → Prop}, K = (fun t gs => withT st t gs fun st => putS l st d [] (.v undef) fun st => skip st m) → (settle j b st.t fun t => settleG j b st.gs fun gs => chk t gs (K t gs)) →
          (tagB st.gs tag = true → ∃ st', go st' m ∧ Good B l η m st' a w) ∧ (tagB st.gs tag = false → ∃ st', skip st' m ∧ Good B l η m st' (a.put d undef) w)) := by
        intro b hb hw K hK hs
        obtain ⟨t, gs, hk, hG', hsame⟩ := step b hb hs
        subst hK
        refine ⟨fun ht => absurd ((lastT_mem hl hg ht).symm.trans hb) hw, fun _ => ?_⟩
        obtain ⟨sz, t0, gs0, hp, nx⟩ := st
        have hk : putS l ⟨sz, t, gs, hp, nx⟩ d [] (.v undef) fun st => skip st m := hk
        obtain ⟨st', hk, hG'', _⟩ := putS_sound hG' hk (v := undef) (by simp [den])
        exact ⟨st', hk, hG''⟩
      cases g with
      | true =>
        cases w0 with
        | true => exact fin true rfl rfl rfl (h1 rfl)
        | false => exact fin2 true rfl (by decide) rfl (h1 rfl)
      | false =>
        cases w0 with
        | true => exact fin2 false rfl (by decide) rfl (h2 rfl)
        | false => exact fin false rfl rfl rfl (h2 rfl)

include hT in
theorem runL_sound {CP : CallP} (hCP : CPOk P CP) {ops : Array Oper} {KP : SV → St → Mem → Prop} {K : St → Mem → Prop} {Q : Exit → Act → World → Prop}
    (hK : ∀ η st m a w, K st m → Good B ops.toList η m st a w → Q .normal a w)
    (hKP : ∀ x η st m a w, KP x st m → Good B ops.toList η m st a w → Q (.panic [{ v := den η x, recovered := false }]) a w) :
    ∀ {l : List Oper} {n : Nat} {η : Names} {m : Mem} {st : St} {a : Act} {w : World}, runL T CP ops.toList KP K l n st m → Good B ops.toList η m st a w → wpList P ops Q l a w
  | [], n, η, m, st, a, w, h, hG => hK _ _ _ _ _ h hG
  | o :: rest, n, η, m, st, a, w, h, hG => by
    simp only [runL] at h
    split at h
    · rename_i hg
      refine wpList_plain hg fun K' hK' => ?_
      have put : ∀ {d : Option Nat} {x : SV} {η : Names} {st : St} {m : Mem} {a : Act} {w : World}, Good B ops.toList η m st a w → (putS ops.toList st d [] x fun st => runL T CP ops.toList KP K rest (n + 1) st m) → K' (a.put d (den η x)) w := by
        intro d x η st m a w hG h
        obtain ⟨st', h, hG', _⟩ := putS_sound hG h (v := den η x) (by simp [tagB])
        exact hK' _ _ (runL_sound hCP hK hKP h hG')
      split at h
      · rename_i c x y ho
        obtain ⟨v, h, hv⟩ := pickV_sound (P := P) hG.T h ho
        show o.upon P a K' Q _
        rw [hv w rfl]
        exact put hG h
      · split at h
        · rename_i hq
          obtain ⟨x, h, hx⟩ := quietV_sound hT hG.T hq h
          show o.upon P a K' Q _
          rw [hx w hG.H.hq rfl]
          exact put hG h
        · exact loudV_sound hT hG hCP h (fun x η' st' m' w' hk hg => put hg hk) (fun x η' st' m' w' hk hg => hKP _ _ _ _ _ _ hk hg)
    · rename_i j w0 hg
      split at h
      case h_1 => exact h.elim
      rename_i d hd
      split at h
      case h_2 => exact h.elim
      rename_i tg g hl
      obtain ⟨st1, h, hG1, ht1, hg1, htag1⟩ := addG_sound hG hd hl h
      have hwant := wanted_eq hG1.T hg hd (by rw [ht1]; exact hl)
      have htag : tagB st1.gs ((j, w0) :: tg) = (tagB st1.gs tg && (g == w0)) := by
        simp only [tagB, hg1]
        exact Bool.and_comm _ _
      rw [← htag] at hwant
      have fin : ∀ {x : SV}, (tagB st1.gs ((j, w0) :: tg) = true → (execOp a.eval o).run P w = .ok (.value (den η x)) w) → (putS ops.toList st1 o.dst ((j, w0) :: tg) x fun st => runL T CP ops.toList KP K rest (n + 1) st m) → wpList P ops Q (o :: rest) a w := by
        intro x hx h
        refine wpList_step fun K' hK' => ?_
        obtain ⟨st', h, hG', _⟩ := putS_sound hG1 h rfl
        rw [hwant]
        cases ht : tagB st1.gs ((j, w0) :: tg) with
        | true =>
          rw [if_pos rfl]
          show o.upon P a K' Q _
          rw [hx ht]
          rw [ht, if_pos rfl] at hG'
          exact hK' _ _ (runL_sound hCP hK hKP h hG')
        | false =>
          rw [if_neg (by decide)]
          rw [ht, if_neg (by decide)] at hG'
          exact hK' _ _ (runL_sound hCP hK hKP h hG')
      split at h
      · rename_i c x y ho
        obtain ⟨v, h, hv⟩ := pickV_sound (P := P) hG1.T h ho
        exact fin (hv w) h
      · split at h
        · rename_i hq
          obtain ⟨x, h, hx⟩ := quietV_sound hT hG1.T hq h
          exact fin (hx w hG1.H.hq) h
        · obtain ⟨hgo, hskip⟩ := splitG_sound h hG1
          refine wpList_step fun K' hK' => ?_
          rw [hwant]
          cases ht : tagB st1.gs ((j, w0) :: tg) with
          | true =>
            rw [if_pos rfl]
            obtain ⟨st2, h, hG2⟩ := hgo ht
            refine loudV_sound hT hG2 hCP h (fun x η' st' m' w' hk hg => ?_) (fun x η' st' m' w' hk hg => hKP _ _ _ _ _ _ hk hg)
            obtain ⟨st', h, hG', _⟩ := putS_sound hg hk (v := den η' x) (by simp [tagB])
            exact hK' _ _ (runL_sound hCP hK hKP h hG')
          | false =>
            rw [if_neg (by decide)]
            obtain ⟨st2, h, hG2⟩ := hskip ht
            exact hK' _ _ (runL_sound hCP hK hKP h hG2)
end
end Go.Proofs.YtaeoibnbbpgajaaDoor.Sx
