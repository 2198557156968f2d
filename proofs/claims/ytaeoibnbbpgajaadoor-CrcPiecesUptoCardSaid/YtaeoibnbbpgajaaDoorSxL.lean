/- Symbolic execution, twelfth text: new names, new blocks, stores: what holds behind them. -/
import Derived.Test.YtaeoibnbbpgajaaDoorSxK
namespace Go.Proofs.YtaeoibnbbpgajaaDoor.Sx

def Agree (nx : Nat) (η η' : Names) : Prop := ∀ n, n < nx → η' n = η n
theorem blt_lt {a b : Nat} (h : Nat.blt a b = true) : a < b := ble_le (a := a + 1) (b := b) h

mutual
theorem den_ok {nx : Nat} {η η' : Names} (hag : Agree nx η η') : ∀ x : SV, ok nx x = true → den η' x = den η x
  | .b _, _ | .i _ _, _ | .s _, _ | .el _ _, _ | .np, _ | .sl _ _ _, _ | .gi _ _ _, _ | .ne, _ | .v _, _ => rfl
  | .p n _, h => by simp only [den, hag n (blt_lt h)]
  | .pj n _ _, h => by simp only [den, hag n (blt_lt h)]
  | .rw n _, h => by simp only [den, hag n (blt_lt h)]
  | .g cs, h => by simp only [den, dens_ok hag cs h]
  | .t cs, h => by simp only [den, dent_ok hag cs h]
  | .e _ x, h => by simp only [den, den_ok hag x h]
  | .fn _ a c, h => by
    simp only [ok, Bool.and_eq_true] at h
    simp only [den, dent_ok hag a h.1, dent_ok hag c h.2]
theorem dens_ok {nx : Nat} {η η' : Names} (hag : Agree nx η η') : ∀ l : List SV, oks nx l = true → dens η' l = dens η l
  | [], _ => rfl
  | x :: r, h => by
    simp only [oks, Bool.and_eq_true] at h
    simp only [dens, den_ok hag x h.1, dens_ok hag r h.2]
theorem dent_ok {nx : Nat} {η η' : Names} (hag : Agree nx η η') : ∀ l : List SV, oks nx l = true → dent η' l = dent η l
  | [], _ => rfl
  | x :: r, h => by
    simp only [oks, Bool.and_eq_true] at h
    simp only [dent, den_ok hag x h.1, dent_ok hag r h.2]
end

theorem okT_look {nx : Nat} : ∀ {t : List Slot} {k : Nat} {tag : Tag} {x : SV}, okT nx t = true → look t k = some (tag, x) → ok nx x = true
  | [], _, _, _, _, h => by cases h
  | ⟨n, tg, y⟩ :: r, k, tag, x, ho, h => by
    simp only [okT, Bool.and_eq_true] at ho
    simp only [look] at h
    split at h
    · cases h; exact ho.1
    · exact okT_look ho.2 h
theorem okH_look {nx : Nat} : ∀ {h : Heap} {k : Nat} {c : Ck}, okH nx h = true → lookH h k = some c → k < nx ∧ okC nx c = true
  | [], _, _, _, h => by cases h
  | (n, d) :: r, k, c, ho, h => by
    simp only [okH, Bool.and_eq_true] at ho
    simp only [lookH] at h
    split at h
    · rename_i hb
      obtain rfl := beq_eq hb
      cases h
      exact ⟨blt_lt ho.1.1, ho.1.2⟩
    · exact okH_look ho.2 h

/-- Blocks that are written or new apart, a piece of memory is as it was. -/
theorem CkAt.kept {η η' : Names} {w w' : World} {n : Nat} {c : Ck} (h : CkAt η w n c) (hn : η' n = η n) (hd : ∀ e cs, c = .st e cs → dens η' cs = dens η cs)
    (hw : ∀ b, (η n).own = some b → w'.heap[b]? = w.heap[b]?) : CkAt η' w' n c := by
  cases c with
  | st e cs =>
    obtain ⟨b, hA, ho, hb⟩ := h
    exact ⟨b, by rw [hn]; exact hA, by rw [hn]; exact ho, by rw [hw b ho, hd e cs rfl]; exact hb⟩
  | row e z k xs =>
    obtain ⟨hl, h | ⟨b, cur, hA, ho, hb, h1, h2, h3, h4⟩⟩ := h
    · exact ⟨hl, .inl (by rw [hn]; exact h)⟩
    · exact ⟨hl, .inr ⟨b, cur, by rw [hn]; exact hA, by rw [hn]; exact ho, by rw [hw b ho]; exact hb, by rw [hn]; exact h1, by rw [hn]; exact h2, by rw [hn]; exact h3, h4⟩⟩

section
variable {B : Base} {η : Names} {m : Mem} {h : Heap} {nx : Nat} {w : World} (hH : Hold B η m h nx w)

theorem cells_heap {η : Names} {w : World} {n : Nat} {c : Ck} {b : Nat} (hc : CkAt η w n c) (ho : (η n).own = some b) : ∃ arr e, w.heap[b]? = some (.cells arr e (0, 0)) := by
  cases c with
  | st e cs =>
    obtain ⟨b', _, ho', hb⟩ := hc
    rw [ho'] at ho; cases ho
    exact ⟨_, _, hb⟩
  | row e z k xs =>
    obtain ⟨_, ⟨h0, _⟩ | ⟨b', cur, _, ho', hb, _⟩⟩ := hc
    · rw [h0] at ho; cases ho
    · rw [ho'] at ho; cases ho
      exact ⟨_, _, hb⟩

/-- The names that a new one is added to. -/
def addN (η : Names) (nx : Nat) (p : Place) : Names := fun n => if n = nx then p else η n
theorem addN_agree (η : Names) (nx : Nat) (p : Place) : Agree nx η (addN η nx p) := fun n hn => by simp [addN]; omega
theorem addN_new (η : Names) (nx : Nat) (p : Place) : addN η nx p nx = p := by simp [addN]

theorem heap_push_lt (w : World) (o : Obj) {b : Nat} (hb : b < w.heap.size) : (w.alloc o).heap[b]? = w.heap[b]? := Go.RowKit.Below.heap_alloc w o b hb
theorem heap_lt {w : World} {b : Nat} {o : Obj} (h : w.heap[b]? = some o) : b < w.heap.size := (Array.getElem?_eq_some_iff.1 h).1

include hH in
/-- A new block of cells, with a name. -/
theorem Hold.add (hok : okH nx h = true) {arr : Array Value} {e : TypeId} {c : Ck} {cap : Nat} {own : Option Nat} {A : Option Addr} (hown : own = some w.heap.size ∨ own = none)
    (hc : CkAt (addN η nx ⟨A, cap, own⟩) (w.alloc (.cells arr e)) nx c) : Hold B (addN η nx ⟨A, cap, own⟩) m ((nx, c) :: h) (nx + 1) (w.alloc (.cells arr e)) := by
  have hag := addN_agree η nx ⟨A, cap, own⟩
  have hnew := addN_new η nx ⟨A, cap, own⟩
  have hlk : ∀ n d, lookH ((nx, c) :: h) n = some d → (n = nx ∧ d = c) ∨ (n < nx ∧ lookH h n = some d) := by
    intro n d hl
    simp only [lookH] at hl
    split at hl
    · rename_i hb
      cases hl
      exact .inl ⟨(beq_eq hb).symm, rfl⟩
    · exact .inr ⟨(okH_look hok hl).1, hl⟩
  have hoth : ∀ n d b, n < nx → lookH h n = some d → (addN η nx ⟨A, cap, own⟩ n).own = some b → b < w.heap.size ∧ (η n).own = some b := by
    intro n d b hn hl ho
    rw [hag n hn] at ho
    exact ⟨(hH.own n d b hl ho).2.1, ho⟩
  refine ⟨fun b o hm => ?_, fun n d hl => ?_, fun n d b hl ho => ?_, fun n d n' d' b hl hl' hne ho ho' => ?_, fun b hb hbm => ?_, ?_, hH.os, hH.tape, hH.output, hH.mle, hH.mnew, ⟨Nat.le_succ_of_le hH.par.1, fun n hn => (hag n (Nat.lt_of_lt_of_le hn hH.par.1)).trans (hH.par.2 n hn)⟩⟩
  · have := hH.imm b o hm
    rw [heap_push_lt w _ (heap_lt this)]; exact this
  · rcases hlk n d hl with ⟨rfl, rfl⟩ | ⟨hn, hl⟩
    · exact ⟨Nat.lt_succ_self _, hc⟩
    · obtain ⟨_, hck⟩ := hH.ck n d hl
      refine ⟨Nat.lt_succ_of_lt hn, hck.kept (hag n hn) (fun e cs hcs => ?_) fun b ho => heap_push_lt w _ (hH.own n d b hl ho).2.1⟩
      subst hcs
      exact dens_ok hag cs (okH_look hok hl).2
  · rcases hlk n d hl with ⟨rfl, rfl⟩ | ⟨hn, hl⟩
    · rw [hnew] at ho
      simp only at ho
      rcases hown with rfl | rfl
      · cases ho
        refine ⟨?_, by simp, .inr hH.size⟩
        cases hm : m w.heap.size with
        | none => rfl
        | some o => exact absurd (heap_lt (hH.imm _ _ hm)) (Nat.lt_irrefl _)
      · cases ho
    · obtain ⟨hlt, ho⟩ := hoth n d b hn hl ho
      obtain ⟨h1, h2, h3⟩ := hH.own n d b hl ho
      exact ⟨h1, by simp; omega, h3⟩
  · rcases hlk n d hl with ⟨rfl, rfl⟩ | ⟨hn, hl2⟩ <;> rcases hlk n' d' hl' with ⟨rfl, rfl⟩ | ⟨hn', hl2'⟩
    · exact hne rfl
    · rw [hnew] at ho
      simp only at ho
      have := (hoth n' d' b hn' hl2' ho').1
      rcases hown with rfl | rfl
      · cases ho; omega
      · cases ho
    · rw [hnew] at ho'
      simp only at ho'
      have := (hoth n d b hn hl2 ho).1
      rcases hown with rfl | rfl
      · cases ho'; omega
      · cases ho'
    · exact hH.apart n d n' d' b hl2 hl2' hne (hoth n d b hn hl2 ho).2 (hoth n' d' b hn' hl2' ho').2
  · rw [heap_push_lt w _ (by have := hH.size; omega)]
    exact hH.old b hb hbm
  · have := hH.size
    simp only [World.size_alloc]
    omega

include hH in
/-- A write into one named block. -/
theorem Hold.write {n : Nat} {c c' : Ck} {h' : Heap} {b : Nat} {w' : World} (hl : lookH h n = some c) (ho : (η n).own = some b)
    (hn : ∀ k, k ≠ b → w'.heap[k]? = w.heap[k]?) (hs : w'.heap.size = w.heap.size) (hos : w'.os = w.os) (htp : w'.tape = w.tape) (hout : w'.output = w.output)
    (hc : CkAt η w' n c') (hh : ∀ k, lookH h' k = if k = n then some c' else lookH h k) : Hold B η m h' nx w' := by
  have hlk : ∀ k d, lookH h' k = some d → ∃ d', lookH h k = some d' := by
    intro k d hk
    rw [hh] at hk
    split at hk
    · rename_i e; subst e; exact ⟨c, hl⟩
    · exact ⟨d, hk⟩
  obtain ⟨hmb, hbs, hbm⟩ := hH.own n c b hl ho
  refine ⟨fun k o hm => ?_, fun k d hk => ?_, fun k d b' hk ho' => ?_, fun k d k' d' b' hk hk' hne hb hb' => ?_, fun k hk hkm => ?_, by rw [hs]; exact hH.size, hos.trans hH.os, htp.trans hH.tape, hout.trans hH.output, hH.mle, hH.mnew, hH.par⟩
  · rw [hn k (fun e => by subst e; rw [hmb] at hm; cases hm)]
    exact hH.imm k o hm
  · rw [hh] at hk
    split at hk
    · rename_i e
      subst e
      cases hk
      exact ⟨(hH.ck _ _ hl).1, hc⟩
    · rename_i e
      obtain ⟨h1, h2⟩ := hH.ck k d hk
      exact ⟨h1, h2.kept rfl (fun _ _ _ => rfl) fun b' ho' => hn b' fun eb => by subst eb; exact hH.apart k d n c _ hk hl e ho' ho⟩
  · obtain ⟨d', hd'⟩ := hlk k d hk
    obtain ⟨h1, h2, h3⟩ := hH.own k d' b' hd' ho'
    exact ⟨h1, by rw [hs]; exact h2, h3⟩
  · obtain ⟨e1, he1⟩ := hlk k d hk
    obtain ⟨e2, he2⟩ := hlk k' d' hk'
    exact hH.apart k e1 k' e2 b' he1 he2 hne hb hb'
  · rw [hn k (fun e => by subst e; rcases hbm with hbm | hbm; exact hkm hbm; omega)]
    exact hH.old k hk hkm
end

theorem setHK_sound {c' : Ck} {K : Heap → Prop} : ∀ {h : Heap} {n : Nat}, setHK h n c' K → ∃ h', K h' ∧ ∀ k, lookH h' k = if k = n then some c' else lookH h k
  | [], _, hs => hs.elim
  | (i, d) :: r, n, hs => by
    simp only [setHK] at hs
    split at hs
    · rename_i hb
      obtain rfl := beq_eq hb
      refine ⟨_, hs, fun k => ?_⟩
      by_cases hk : k = i
      · subst hk; simp [lookH, Nat.beq_refl]
      · have : Nat.beq i k = false := by rw [Bool.eq_false_iff]; intro e; exact hk (beq_eq e).symm
        simp [lookH, this, hk]
    · rename_i hb
      obtain ⟨h', hk, hh⟩ := setHK_sound hs
      refine ⟨_, hk, fun k => ?_⟩
      simp only [lookH]
      split
      · rename_i hb'
        obtain rfl := beq_eq hb'
        rw [if_neg]
        intro e
        subst e
        rw [Nat.beq_refl] at hb
        cases hb
      · exact hh k
theorem beq_ne {a b : Nat} (h : a ≠ b) : Nat.beq a b = false := by
  rw [Bool.eq_false_iff]; intro e; exact h (beq_eq e)
theorem delHK_sound {K : Heap → Prop} : ∀ {h : Heap} {n : Nat}, delHK h n K → ∃ h', K h' ∧ (∀ k c, lookH h' k = some c → lookH h k = some c ∧ k ≠ n) ∧ ∀ nx, okH nx h = true → okH nx h' = true
  | [], _, hs => ⟨[], hs, (fun _ _ h => by cases h), fun _ h => h⟩
  | (i, d) :: r, n, hs => by
    simp only [delHK] at hs
    split at hs
    · rename_i hb
      obtain rfl := beq_eq hb
      obtain ⟨h', hk, hh, hok⟩ := delHK_sound hs
      refine ⟨_, hk, fun k c hl => ?_, fun nx ho => ?_⟩
      · obtain ⟨h1, h2⟩ := hh k c hl
        exact ⟨by simp only [lookH, beq_ne (Ne.symm h2)]; exact h1, h2⟩
      · simp only [okH, Bool.and_eq_true] at ho
        exact hok nx ho.2
    · rename_i hb
      obtain ⟨h', hk, hh, hok⟩ := delHK_sound hs
      refine ⟨_, hk, fun k c hl => ?_, fun nx ho => ?_⟩
      · by_cases hik : i = k
        · subst hik
          simp only [lookH, Nat.beq_refl] at hl ⊢
          exact ⟨hl, fun e => by subst e; rw [Nat.beq_refl] at hb; cases hb⟩
        · simp only [lookH, beq_ne hik] at hl ⊢
          exact hh k c hl
      · simp only [okH, Bool.and_eq_true] at ho ⊢
        exact ⟨ho.1, hok nx ho.2⟩
end Go.Proofs.YtaeoibnbbpgajaaDoor.Sx
