/- Symbolic execution, fifteenth text: append, make, literals of slices are evaluated rightly. Then: Symbolic execution: rows that stay from now on, and that this is told rightly. Symbolic execution, sixteenth text: every loud operation is evaluated rightly. Symbolic execution, seventeenth text: runs of operations are evaluated rightly. Symbolic execution, eighteenth text: a region in the text's order is evaluated rightly. Symbolic execution, nineteenth text: runs of operations are evaluated rightly. Symbolic execution, twentieth text: code is evaluated rightly. Symbolic execution, twenty-first text: one state laid over another (loops and calls rest on it). Symbolic execution, twenty-second text: a state in another's place; loops. Symbolic execution, twenty-third text: what a function does, stated; entry and return. Symbolic execution, twenty-fourth text: calls of functions of which it is stated what they do. Symbolic execution, twenty-fifth text: a call by what is stated is a call. Symbolic execution, twenty-sixth text: what is known of types, row by row (each row is closed by kernel_rfl). Symbolic execution, twenty-seventh text: regions in no order, of which the head leaves the world as it is. Symbolic execution, twenty-eighth text: regions in no order, as the evaluator takes them. Symbolic execution: regions in no order, of which what looks at memory stands free among what makes or writes it: one order for all. Symbolic execution: regions in no order, by a tree of orders (two operations that make or write may stand ready at once), rows that stay being told so ahead. -/
import Derived.Test.YtjpjiniclibgkaaSafeA
import Derived.LoopN
import Derived.KernelRfl
import Derived.StillTail
import Derived.OrdersHeld
namespace Go.Proofs.Ytjpjiniclibgkaa.Sx

theorem cell_heap {w W : World} (h : W.heap = w.heap) (a : Addr) : W.cell? a = w.cell? a := by simp [World.cell?, h]

section
variable {P : Program} {T : Tbl} (hT : TOk P T) {B : Base} {ops : List Oper} {η : Names} {m : Mem} {st : St} {a : Act} {w : World} (hG : Good B ops η m st a w)

theorem srcV_sound {h : Heap} {nx : Nat} (hH : Hold B η m h nx w) {e : TypeId} {z : Nat} {x : SV} {K : Nat → List Value → Prop} (hs : srcV h m e z x K) :
    ∃ n vs, K n vs ∧ vs.length = n * z ∧ (∀ u ∈ vs, u.oneCell' = true) ∧ (Builtin.lenOf (den η x)).run P w = .ok n w ∧
      ∀ W : World, W.heap = w.heap → (Builtin.firstCells z n (den η x)).run P W = .ok vs.toArray W := by
  unfold srcV at hs
  split at hs
  · rename_i r n
    split at hs
    · rename_i e' z' k xs hl
      split at hs
      · rename_i hb
        simp only [Bool.and_eq_true] at hb
        obtain rfl := beq_eq hb.1
        obtain ⟨hn, hk⟩ := hs
        obtain ⟨⟨hxl, hx1⟩, hrow⟩ := (hH.ck r _ hl).2
        have hlen : (xs.take (n * z)).length = n * z := by
          rw [List.length_take, hxl, Nat.min_eq_left (Nat.mul_le_mul_right _ hn)]
        refine ⟨n, _, hk, hlen, fun u hu => hx1 u (List.mem_of_mem_take hu), rfl, fun W hW => ?_⟩
        rcases hrow with ⟨_, hk0, _⟩ | ⟨b, cur, hA, _, hb, _, _, _, htake⟩
        · obtain rfl : n = 0 := by omega
          cases hA : (η r).A <;> simp [den, hA, Builtin.firstCells, loadCells, loadCellsFrom]
        · simp only [den, hA]
          refine run_firstCells_some (P := P) W z n _ _ _ _ hlen fun j u hu => ?_
          rw [cell_heap hW, add_base, cell_of_row w b j cur e' (0, 0) hb]
          rw [List.getElem?_take] at hu
          split at hu
          · rw [← htake, List.getElem?_take] at hu
            split at hu
            · simpa using hu
            · cases hu
          · cases hu
      · exact hs.elim
    · exact hs.elim
  · rename_i A n c
    obtain ⟨vs, ⟨hl, h1, hr⟩, hk⟩ := hs
    refine ⟨n, vs, hk, hl, h1, rfl, fun W hW => ?_⟩
    rcases Nat.eq_zero_or_pos n with rfl | hp
    · have hv : vs = [] := List.eq_nil_of_length_eq_zero (by simpa using hl)
      subst hv
      cases A <;> simp [den, Builtin.firstCells, loadCells, loadCellsFrom]
    · obtain ⟨ad, rfl, hlen, hc⟩ := hr hp
      refine run_firstCells_some (P := P) W z n _ _ _ _ hl fun j u hu => ?_
      rw [cell_heap hW]
      exact mcell_cell hH.hq (by have := hc j u hu; rwa [Nat.zero_add] at this)
  · rename_i s
    split at hs
    · rename_i hb
      obtain rfl := beq_eq hb
      refine ⟨_, _, hs, by simp, fun u hu => ?_, rfl, fun W hW => ?_⟩
      · simp only [List.mem_map] at hu
        obtain ⟨b, _, rfl⟩ := hu
        rfl
      · have he : s.extract 0 s.size = s := by
          rw [ByteArray.ext_iff]
          simp
        simp only [den, Builtin.firstCells, he, Sem.run_pure]
        congr 1
        apply Array.ext'
        simp
    · exact hs.elim
  · exact hs.elim

include hG in
/-- What append leaves where it makes a new array. -/
theorem grow_put {h' : Heap} {e : TypeId} {z need old : Nat} {xs : List Value} {zc : Array Value} (hzc : zc.size = z) (hd : ∀ k c, lookH h' k = some c → lookH st.h k = some c) (hok : okH st.nx h' = true) (hokT : okT st.nx st.t = true)
    (hl : xs.length = need * z) (h1 : ∀ u ∈ xs, u.oneCell' = true) (hm : need ≤ maxLen) :
    Good B ops (addN η st.nx ⟨some ⟨w.heap.size, 0, none⟩, grownCap w need old e, some w.heap.size⟩) m ⟨st.sz, st.t, st.gs, (st.nx, .row e z need xs) :: h', st.nx + 1⟩ a
      (w.drew.alloc (.cells (xs.toArray ++ Builtin.zeroCells zc (grownCap w need old e - need)) e)) := by
  have hge := grownCap_ge w need old e
  have hcm := grownCap_le_maxLen w need old e hm
  have hag := addN_agree η st.nx ⟨some ⟨w.heap.size, 0, none⟩, grownCap w need old e, some w.heap.size⟩
  have hnew := addN_new η st.nx ⟨some ⟨w.heap.size, 0, none⟩, grownCap w need old e, some w.heap.size⟩
  have hH := hG.H.del hd
  refine ⟨hH.put hok (fun k hk _ => heap_push_lt w.drew _ hk) (by simp) rfl rfl rfl (fun b hb => ?_) ?_, hG.T.names hokT hag rfl rfl rfl⟩
  · simp only [Option.some.injEq] at hb
    subst hb
    exact hH.fresh (Nat.le_refl _) (by simp)
  · refine ⟨⟨hl, h1⟩, .inr ⟨w.heap.size, _, by rw [hnew], by rw [hnew], heap_alloc_new w.drew _, ?_, ?_, ?_, ?_⟩⟩
    · rw [hnew]; exact hge
    · rw [hnew]; exact hcm
    · rw [hnew]
      simp only [Array.size_append, List.size_toArray, size_zeroCells, hzc, hl, ← Nat.add_mul]
      congr 1
      omega
    · simp only [Array.toList_append]
      rw [← hl]
      exact List.take_left

theorem addN_row (η : Names) (nx : Nat) (p : Place) (len : Nat) : den (addN η nx p) (.rw nx len) = .slice p.A len p.cap := by simp only [den, addN_new]

include hT hG in
theorem appendE_sound {t u : TypeId} {s x : SV} {K : SV → St → Prop} {ty : TypeId} (huu : (∃ e', P.underlying u = some (.slice e')) ∨ P.underlying u = some .string) (h : appendE T st m t s x K) :
    ∃ v η' st' w', K v st' ∧ (Builtin.append_ #[t, u] ty #[den η s, den η x]).run P w = .ok (den η' v) w' ∧ Good B ops η' m st' a w' := by
  have hH := hG.H
  unfold appendE at h
  split at h
  case h_2 => exact h.elim
  rename_i ti hti
  split at h
  case h_2 => exact h.elim
  rename_i e hd
  have hu := (hT t ti hti).1
  rw [hd] at hu
  split at h
  case h_2 => exact h.elim
  rename_i te hte
  obtain ⟨_, hzcl, hzsz, hzg, ⟨i, hi, hisz, hiby, hiz⟩, _⟩ := hT e te hte
  obtain ⟨n, vs, hq, hvl, hv1, hlen, hfc⟩ := srcV_sound (P := P) hH h
  clear h
  revert hq; intro h
  -- nothing was there before, and nothing is at hand
  have empty : ∀ {A : Option Addr} {h' : Heap}, (∀ k c, lookH h' k = some c → lookH st.h k = some c) → okH st.nx h' = true → okT st.nx st.t = true → n * te.bytes ≤ 140737488355328 → n ≤ maxLen →
      K (.rw st.nx n) ⟨st.sz, st.t, st.gs, (st.nx, .row e te.size n vs) :: h', st.nx + 1⟩ →
      ∃ v η' st' w', K v st' ∧ (Builtin.append_ #[t, u] ty #[.slice A 0 0, den η x]).run P w = .ok (den η' v) w' ∧ Good B ops η' m st' a w' := by
    intro A h' hd hok hokT hby hml hk
    by_cases hn : n = 0
    · subst hn
      have hv : vs = [] := List.eq_nil_of_length_eq_zero (by simpa using hvl)
      subst hv
      refine ⟨_, addN η st.nx ⟨A, 0, none⟩, _, w, hk, ?_, ?_⟩
      · rw [addN_row]
        exact append_none hu huu hi hlen (by rw [hisz]; exact hfc w rfl) ty
      · refine ⟨(hH.del hd).put hok (fun _ _ _ => rfl) (Nat.le_refl _) rfl rfl rfl (fun b hb => by cases hb) ?_, hG.T.names hokT (addN_agree _ _ _) rfl rfl rfl⟩
        refine ⟨⟨by simp, by simp⟩, .inl ?_⟩
        rw [addN_new]
        exact ⟨rfl, rfl, rfl⟩
    · have hgrow := append_grow (P := P) (w := w) (A := A) (sLen := 0) (sCap := 0) (olds := []) (news := vs) (x := den η x) hu huu hi hiz
        (by cases A <;> simp [Builtin.firstCells, loadCells, loadCellsFrom]) hlen (by rw [hisz]; exact hfc w.drew rfl) (by omega) (by simp only [maxLen] at hml; omega)
        (growslice_fits (by omega) (by rw [hiby]; simpa using hby)) ty
      simp only [Nat.zero_add] at hgrow
      refine ⟨_, _, _, _, hk, ?_, grow_put hG (old := 0) hzsz hd hok hokT hvl hv1 hml⟩
      rw [addN_row, hgrow]
      simp
  split at h
  · rename_i r len
    split at h
    · rename_i e' z k xs hl
      split at h
      · rename_i hb
        simp only [Bool.and_eq_true] at hb
        obtain rfl := beq_eq hb.1
        obtain rfl := beq_eq hb.2
        obtain ⟨⟨hlk, hby, hml⟩, h⟩ := h
        unfold moveRow at h
        simp only [forceN_eq] at h
        split at h
        · rename_i hokb
          simp only [okSt, Bool.and_eq_true] at hokb
          obtain ⟨hokT, hokH⟩ := hokb
          obtain ⟨h', hq, hd, hok'⟩ := delHK_sound h
          clear h
          revert hq; intro h
          have hok := hok' _ hokH
          have hk : K (.rw st.nx (len + n)) ⟨st.sz, st.t, st.gs, (st.nx, .row e te.size (len + n) (xs.take (len * te.size) ++ vs)) :: h', st.nx + 1⟩ := by
            obtain ⟨sz, tt, gs, hp, nx⟩ := st
            exact h
          obtain ⟨⟨hxl, hx1⟩, ⟨_, hk0, hcap⟩ | ⟨b, cur, hA, ho, hb, hkc, hcm, hcur, htake⟩⟩ := (hH.ck r _ hl).2
          · obtain rfl : len = 0 := by omega
            have := empty (A := (η r).A) (fun k c hkc => (hd k c hkc).1) hok hokT (by simp only [Nat.zero_add] at hby; omega) (by simp only [maxLen]; omega) (by simpa using hk)
            simpa only [den, hcap] using this
          · have htl : (xs.take (len * te.size)).length = len * te.size := by
              rw [List.length_take, hxl, Nat.min_eq_left (Nat.mul_le_mul_right _ hlk)]
            have hall : ∀ u ∈ xs.take (len * te.size) ++ vs, u.oneCell' = true := by
              intro u hu
              rcases List.mem_append.1 hu with hu | hu
              · exact hx1 u (List.mem_of_mem_take hu)
              · exact hv1 u hu
            have hlall : (xs.take (len * te.size) ++ vs).length = (len + n) * te.size := by rw [List.length_append, htl, hvl, Nat.add_mul]
            have hcx : cur.toList.take (len * te.size) = xs.take (len * te.size) := by
              rw [← htake, List.take_take, Nat.min_eq_left (Nat.mul_le_mul_right _ hlk)]
            by_cases hroom : len + n ≤ (η r).cap
            · have hfit : len * te.size + vs.length ≤ cur.size := by rw [hvl, hcur, ← Nat.add_mul]; exact Nat.mul_le_mul_right _ hroom
              have hrun := append_room (P := P) (sLen := len) (sCap := (η r).cap) (x := den η x) hu huu hi hb hlen (by rw [hisz]; exact hfc w rfl) hv1 hroom (by rw [hisz]; exact hfit) ty
              rw [hisz] at hrun
              have hx' : den η (.rw r len) = .slice (some ⟨b, 0, none⟩) len (η r).cap := by simp only [den, hA]
              rw [← hx'] at hrun
              obtain ⟨hmb, hbs, hbm⟩ := hH.own r _ b hl ho
              refine ⟨_, addN η st.nx ⟨some ⟨b, 0, none⟩, (η r).cap, some b⟩, _, _, hk, hrun.trans (congrArg (fun v => Result.ok v _) (addN_row η st.nx ⟨some ⟨b, 0, none⟩, (η r).cap, some b⟩ (len + n)).symm), ⟨(hH.del fun k c hkc => (hd k c hkc).1).put hok (fun k _ hkb => setRow_other w b k _ (fun e => hkb (by rw [e]))) (by simp) rfl rfl rfl (fun b' hb' => ?_) ?_, hG.T.names hokT (addN_agree _ _ _) rfl rfl rfl⟩⟩
              · simp only [Option.some.injEq] at hb'
                subst hb'
                exact ⟨hmb, by simpa using hbs, hbm, fun k c hkc hko => hH.apart k c r _ b (hd k c hkc).1 hl (hd k c hkc).2 hko ho⟩
              · refine ⟨⟨hlall, hall⟩, .inr ⟨b, _, by rw [addN_new], by rw [addN_new], setRow_heap w b _ _ e _ hb, ?_, ?_, ?_, ?_⟩⟩
                · rw [addN_new]; exact hroom
                · rw [addN_new]; exact hcm
                · rw [addN_new]
                  simp only [List.size_toArray, List.length_append, List.length_take, List.length_drop, Array.length_toList]
                  omega
                · show List.take _ (_ ++ _ ++ _) = _
                  rw [hcx, ← hlall]
                  exact List.take_left
            · have hgrow := append_grow (P := P) (w := w) (A := some ⟨b, 0, none⟩) (sLen := len) (sCap := (η r).cap) (olds := xs.take (len * te.size)) (news := vs) (x := den η x) hu huu hi hiz
                (by
                  rw [hisz]
                  refine run_firstCells_some (P := P) w.drew te.size len _ _ _ _ htl fun j u hu => ?_
                  rw [add_base]
                  show w.cell? _ = _
                  rw [cell_of_row w b j cur e (0, 0) hb]
                  rw [← hcx, List.getElem?_take] at hu
                  split at hu
                  · simpa using hu
                  · cases hu) hlen (by rw [hisz]; exact hfc w.drew rfl) (by omega) (by omega)
                (growslice_fits (by omega) (by rw [hiby]; omega)) ty
              refine ⟨_, _, _, _, hk, ?_, grow_put hG (old := (η r).cap) hzsz (fun k c hkc => (hd k c hkc).1) hok hokT hlall hall (by simp only [maxLen]; omega)⟩
              rw [addN_row]
              simp only [den, hA]
              rw [hgrow]
              congr 3
              simp
        · exact h.elim
      · exact h.elim
    · exact h.elim
  · rename_i A len cap
    obtain ⟨⟨rfl, rfl, hby, hml⟩, h⟩ := h
    unfold newRow at h
    simp only [forceN_eq] at h
    split at h
    · rename_i hokb
      simp only [okSt, Bool.and_eq_true] at hokb
      have hk : K (.rw st.nx n) ⟨st.sz, st.t, st.gs, (st.nx, .row e te.size n vs) :: st.h, st.nx + 1⟩ := by
        obtain ⟨sz, tt, gs, hp, nx⟩ := st
        exact h
      exact empty (fun k c hkc => hkc) hokb.2 hokb.1 (by omega) (by simp only [maxLen]; omega) hk
    · exact h.elim
  · exact h.elim
end
end Go.Proofs.Ytjpjiniclibgkaa.Sx

namespace Go.Proofs.Ytjpjiniclibgkaa.Sx

section
variable {η : Names} {r : Nat} {A : Option Addr} {cap : Nat}

mutual
theorem sbV_sound (hA : (η r).A = A) (hc : (η r).cap = cap) {K : SV → Prop} : ∀ {x : SV}, sbV r A cap x K → ∃ x', K x' ∧ den η x' = den η x ∧ pc x' (den η x') = pc x (den η x) ∧ ∀ g, x = .b g → x' = .b g
  | .rw n l, h => by
    simp only [sbV] at h
    split at h
    · rename_i hb
      obtain rfl := beq_eq hb
      exact ⟨_, h, by simp only [den, hA, hc], by simp only [den, pc, hA, hc], fun g e => by cases e⟩
    · exact ⟨_, h, rfl, rfl, fun g e => by cases e⟩
  | .p n o, h => by
    simp only [sbV] at h
    split at h
    · rename_i hb
      obtain rfl := beq_eq hb
      exact ⟨_, h, by simp only [den, hA], by simp only [den, pc, hA], fun g e => by cases e⟩
    · exact ⟨_, h, rfl, rfl, fun g e => by cases e⟩
  | .pj n o j, h => by
    simp only [sbV] at h
    split at h
    · exact h.elim
    · exact ⟨_, h, rfl, rfl, fun g e => by cases e⟩
  | .g cs, h => by
    simp only [sbV] at h
    obtain ⟨cs', h, hd, _⟩ := sbVs_sound hA hc h
    exact ⟨_, h, by simp only [den, hd], by simp only [den, pc, hd], fun g e => by cases e⟩
  | .t cs, h => by
    simp only [sbV] at h
    obtain ⟨cs', h, _, hd⟩ := sbVs_sound hA hc h
    exact ⟨_, h, by simp only [den, hd], by simp only [den, pc, hd], fun g e => by cases e⟩
  | .e ty x, h => by
    simp only [sbV] at h
    obtain ⟨x', h, hd, _⟩ := sbV_sound hA hc h
    exact ⟨_, h, by simp only [den, hd], by simp only [den, pc, hd], fun g e => by cases e⟩
  | .fn f a c, h => by
    simp only [sbV] at h
    obtain ⟨a', h, _, hd⟩ := sbVs_sound hA hc h
    obtain ⟨c', h, _, hd'⟩ := sbVs_sound hA hc h
    exact ⟨_, h, by simp only [den, hd, hd'], by simp only [den, pc, hd, hd'], fun g e => by cases e⟩
  | .b x, h => ⟨_, h, rfl, rfl, fun g e => e⟩
  | .i k n, h => ⟨_, h, rfl, rfl, fun g e => e⟩
  | .s x, h => ⟨_, h, rfl, rfl, fun g e => e⟩
  | .el B o, h => ⟨_, h, rfl, rfl, fun g e => e⟩
  | .np, h => ⟨_, h, rfl, rfl, fun g e => e⟩
  | .sl B l c, h => ⟨_, h, rfl, rfl, fun g e => e⟩
  | .gi n k f, h => ⟨_, h, rfl, rfl, fun g e => e⟩
  | .ne, h => ⟨_, h, rfl, rfl, fun g e => e⟩
  | .v x, h => ⟨_, h, rfl, rfl, fun g e => e⟩
  | .kb x, h => ⟨_, h, rfl, rfl, fun g e => e⟩
  | .ud, h => ⟨_, h, rfl, rfl, fun g e => e⟩
theorem sbVs_sound (hA : (η r).A = A) (hc : (η r).cap = cap) {K : List SV → Prop} : ∀ {l : List SV}, sbVs r A cap l K → ∃ l', K l' ∧ dens η l' = dens η l ∧ dent η l' = dent η l
  | [], h => ⟨_, h, rfl, rfl⟩
  | x :: l, h => by
    simp only [sbVs] at h
    obtain ⟨x', h, hd, hp, _⟩ := sbV_sound hA hc h
    obtain ⟨l', h, h1, h2⟩ := sbVs_sound hA hc h
    exact ⟨_, h, by simp only [dens, h1, hp], by simp only [dent, h2, hd]⟩
end

theorem sbT_sound (hA : (η r).A = A) (hc : (η r).cap = cap) {K : List Slot → Prop} : ∀ {t : List Slot}, sbT r A cap t K →
    ∃ t', K t' ∧ (∀ k tag x', look t' k = some (tag, x') → ∃ x, look t k = some (tag, x) ∧ den η x' = den η x) ∧ ∀ k tag g, look t k = some (tag, .b g) → look t' k = some (tag, .b g)
  | [], h => ⟨_, h, (fun _ _ _ h => by cases h), fun _ _ _ h => by cases h⟩
  | ⟨n, tg, y⟩ :: l, h => by
    simp only [sbT] at h
    obtain ⟨y', h, hd, _, hb⟩ := sbV_sound hA hc h
    obtain ⟨t', h, h1, h2⟩ := sbT_sound hA hc h
    refine ⟨_, h, fun k tag x' hl => ?_, fun k tag g hl => ?_⟩
    · simp only [look] at hl ⊢
      split at hl
      · cases hl
        exact ⟨y, rfl, hd⟩
      · exact h1 k tag x' hl
    · simp only [look] at hl ⊢
      split at hl
      · cases hl
        rw [hb g rfl]
      · exact h2 k tag g hl

theorem sbH_sound (hA : (η r).A = A) (hc : (η r).cap = cap) {K : Heap → Prop} : ∀ {h : Heap}, sbH r A cap h K →
    ∃ h', K h' ∧ ∀ n c', lookH h' n = some c' → ∃ c, lookH h n = some c ∧ ∀ w, CkAt η w n c → CkAt η w n c'
  | [], h => ⟨_, h, fun _ _ h => by cases h⟩
  | (i, .st e cs) :: l, h => by
    simp only [sbH] at h
    obtain ⟨cs', h, hd, _⟩ := sbVs_sound hA hc h
    obtain ⟨h', h, h1⟩ := sbH_sound hA hc h
    refine ⟨_, h, fun n c' hl => ?_⟩
    simp only [lookH] at hl ⊢
    split at hl
    · cases hl
      exact ⟨_, rfl, fun w hck => by simpa only [CkAt, hd] using hck⟩
    · exact h1 n c' hl
  | (i, .row e z k xs) :: l, h => by
    simp only [sbH] at h
    obtain ⟨h', h, h1⟩ := sbH_sound hA hc h
    refine ⟨_, h, fun n c' hl => ?_⟩
    simp only [lookH] at hl ⊢
    split at hl
    · cases hl
      exact ⟨_, rfl, fun w hck => hck⟩
    · exact h1 n c' hl
end

section
variable {P : Program} {T : Tbl} {B : Base} {ops : List Oper} {η : Names} {m : Mem} {st : St} {a : Act} {w : World}

/-- What an own row has from sealing on. -/
theorem Hold.sealed {h : Heap} {nx : Nat} (hH : Hold B η m h nx w) {r : Nat} {e : TypeId} {z n : Nat} {xs : List Value} (hl : lookH h r = some (.row e z n xs))
    {w' : World} {fr : Nat × Nat} (hw : ∀ b cur, (η r).own = some b → w.heap[b]? = some (.cells cur e (0, 0)) → w'.heap[b]? = some (.cells cur e fr)) (hwo : ∀ k, (η r).own ≠ some k → w'.heap[k]? = w.heap[k]?)
    (hs : w'.heap.size = w.heap.size) (hos : w'.os = w.os) (htp : w'.tape = w.tape) (hout : w'.output = w.output) :
    ∃ m', (Sealed0 m m' (η r).A (η r).cap n z xs ∧ (fr = (0, 0) → (n = 0 ∧ (η r).cap = 0 ∧ m' = m) ∨ ∃ b cur e, (η r).A = some ⟨b, 0, none⟩ ∧ m b = none ∧ m' = (fun k => if k = b then some (.cells cur e (0, 0)) else m k) ∧ cur.size = (η r).cap * z ∧ cur.toList.take (n * z) = xs)) ∧ ∀ h', (∀ k c, lookH h' k = some c → lookH h k = some c ∧ k ≠ r) → Hold B η m' h' nx w' := by
  obtain ⟨⟨hxl, hx1⟩, hrow⟩ := (hH.ck r _ hl).2
  have base : ∀ m' : Mem, (∀ b o, m' b = some o → w'.heap[b]? = some o) → (∀ b o, m b = some o → m' b = some o) → (∀ b o, m' b = some o → m b = some o ∨ (η r).own = some b) →
      ∀ h', (∀ k c, lookH h' k = some c → lookH h k = some c ∧ k ≠ r) → Hold B η m' h' nx w' := by
    intro m' himm hext hnew h' hh
    have hoff : ∀ k c b, lookH h' k = some c → (η k).own = some b → (η r).own ≠ some b := fun k c b hk ho ho' =>
      hH.apart k c r _ b (hh k c hk).1 hl (hh k c hk).2 ho ho'
    refine ⟨himm, fun k c hk => ?_, fun k c b hk ho => ?_, fun k c k' c' b hk hk' => hH.apart k c k' c' b (hh k c hk).1 (hh k' c' hk').1, fun b hb hbm => ?_, by rw [hs]; exact hH.size, hos.trans hH.os, htp.trans hH.tape, hout.trans hH.output,
      fun b o h0 => hext b o (hH.mle b o h0), fun b o hb => ?_, hH.par⟩
    · obtain ⟨h1, h2⟩ := hH.ck k c (hh k c hk).1
      exact ⟨h1, h2.kept rfl (fun _ _ _ => rfl) fun b ho => hwo b (hoff k c b hk ho)⟩
    · obtain ⟨h1, h2, h3⟩ := hH.own k c b (hh k c hk).1 ho
      refine ⟨?_, by rw [hs]; exact h2, h3⟩
      cases hb : m' b with
      | none => rfl
      | some o =>
        rcases hnew b o hb with h4 | h4
        · rw [h1] at h4; cases h4
        · exact absurd h4 (hoff k c b hk ho)
    · rw [hwo b (fun ho => by
        rcases (hH.own r _ b hl ho).2.2 with h3 | h3
        · exact hbm h3
        · omega)]
      exact hH.old b hb hbm
    · rcases hnew b o hb with h4 | h4
      · exact hH.mnew b o h4
      · exact .inr ((hH.own r _ b hl h4).2.2.symm)
  rcases hrow with ⟨ho, hk0, hcap⟩ | ⟨b, cur, hA, ho, hb, hk, hcm, hcur, htake⟩
  · subst hk0
    refine ⟨m, ⟨⟨fun _ _ h => h, hxl, hx1, Nat.zero_le _, fun h => absurd h (Nat.lt_irrefl _)⟩, fun _ => .inl ⟨rfl, hcap, rfl⟩⟩, base m (fun b o hb => ?_) (fun _ _ h => h) (fun b o h => .inl h)⟩
    rw [hwo b (fun e => by rw [ho] at e; cases e)]
    exact hH.imm b o hb
  · have hmb := (hH.own r _ b hl ho).1
    refine ⟨fun k => if k = b then some (.cells cur e fr) else m k, ⟨⟨fun k o hk => ?_, hxl, hx1, hk, fun hp => ⟨⟨b, 0, none⟩, hA, hxl, fun j u hj => ?_⟩⟩, fun hfr => .inr ⟨b, cur, e, hA, hmb, by rw [hfr], hcur, htake⟩⟩, base _ (fun k o hk => ?_) (fun k o hk => ?_) (fun k o hk => ?_)⟩
    · rw [if_neg (fun e => by subst e; rw [hmb] at hk; cases hk)]; exact hk
    · rw [Nat.zero_add, add_base]
      simp only [mcell, if_true]
      rw [← htake, List.getElem?_take] at hj
      split at hj
      · simpa using hj
      · cases hj
    · by_cases hkb : k = b
      · subst hkb
        rw [if_pos rfl] at hk
        rw [hw k cur ho hb]
        exact hk
      · rw [if_neg hkb] at hk
        rw [hwo k (fun e => hkb (by rw [ho] at e; cases e; rfl))]
        exact hH.imm k o hk
    · rw [if_neg (fun e => by subst e; rw [hmb] at hk; cases hk)]; exact hk
    · by_cases hkb : k = b
      · subst hkb; exact .inr ho
      · rw [if_neg hkb] at hk; exact .inl hk

theorem sealE_out {S : Mem → Mem → Option Addr → Nat → Nat → Nat → List Value → Prop} {r : Nat} {K : Option Addr → Nat → St → Mem → Prop} (ht : HoldT ops η st a) (h : sealG S st m r K) : ∃ e z n xs, lookH st.h r = some (.row e z n xs) ∧
    ∀ (w' : World) (m' : Mem), S m m' (η r).A (η r).cap n z xs → (∀ h', (∀ k c, lookH h' k = some c → lookH st.h k = some c ∧ k ≠ r) → Hold B η m' h' st.nx w') →
      ∃ st', K (η r).A (η r).cap st' m' ∧ Good B ops η m' st' a w' := by
  unfold sealG at h
  split at h
  case h_2 => exact h.elim
  rename_i e z n xs hl
  refine ⟨e, z, n, xs, hl, fun w' m' hS hh => ?_⟩
  obtain ⟨h1, hk, hd, _⟩ := delHK_sound (h _ _ m' hS)
  obtain ⟨h2, hk, hb⟩ := sbH_sound (η := η) rfl rfl hk
  obtain ⟨t2, hk, ht1, ht2⟩ := sbT_sound (η := η) rfl rfl hk
  obtain ⟨sz, t, gs, hp, nx⟩ := st
  have hH := hh h1 hd
  refine ⟨_, hk, ⟨?_, ⟨ht.sz, ht.df, fun k tag x' hl' => ?_, fun j g tg hg => ?_⟩⟩⟩
  · refine ⟨hH.imm, fun k c hl' => ?_, fun k c b hl' ho => ?_, fun k c k' c' b hl' hl'' hne ho => ?_, hH.old, hH.size, hH.os, hH.tape, hH.output, hH.mle, hH.mnew, hH.par⟩
    · obtain ⟨c0, hc0, hck⟩ := hb k c hl'
      exact ⟨(hH.ck k c0 hc0).1, hck _ (hH.ck k c0 hc0).2⟩
    · obtain ⟨c0, hc0, _⟩ := hb k c hl'
      exact hH.own k c0 b hc0 ho
    · obtain ⟨c0, hc0, _⟩ := hb k c hl'
      obtain ⟨c1, hc1, _⟩ := hb k' c' hl''
      exact hH.apart k c0 k' c1 b hc0 hc1 hne ho
  · obtain ⟨x, hx, hde⟩ := ht1 k tag x' hl'
    rw [hde]
    exact ht.sl k tag x hx
  · obtain ⟨d, hd', hl'⟩ := ht.gs j g tg hg
    exact ⟨d, hd', ht2 d tg g hl'⟩

theorem sealE_sound (hG : Good B ops η m st a w) {r : Nat} {K : Option Addr → Nat → St → Mem → Prop} (h : sealE st m r K) : ∃ st' m', K (η r).A (η r).cap st' m' ∧ Good B ops η m' st' a w := by
  obtain ⟨e, z, n, xs, hl, hk⟩ := sealE_out (B := B) hG.T h
  obtain ⟨m', hS, hh⟩ := hG.H.sealed hl (w' := w) (fr := (0, 0)) (fun _ _ _ h => h) (fun _ _ => rfl) rfl rfl rfl rfl
  obtain ⟨st', hk, hg⟩ := hk w m' ⟨hS.1, hS.2 rfl⟩ hh
  exact ⟨st', m', hk, hg⟩

theorem sealXs_sound {K : List SV → St → Mem → Prop} : ∀ {f : Nat} {l : List SV} {st : St} {m : Mem}, sealXs f st m l K → Good B ops η m st a w →
    ∃ l' st' m', K l' st' m' ∧ Good B ops η m' st' a w ∧ dens η l' = dens η l ∧ dent η l' = dent η l
  | 0, l, st, m, h, hG => ⟨l, st, m, h, hG, rfl, rfl⟩
  | f + 1, l, st, m, h, hG => by
    simp only [sealXs] at h
    split at h
    · exact ⟨l, st, m, h, hG, rfl, rfl⟩
    · obtain ⟨st', m', h, hG'⟩ := sealE_sound hG h
      obtain ⟨l', h, h1, h2⟩ := sbVs_sound (η := η) rfl rfl h
      obtain ⟨l'', st'', m'', hk, hg, h3, h4⟩ := sealXs_sound h hG'
      exact ⟨l'', st'', m'', hk, hg, h3.trans h1, h4.trans h2⟩

theorem sbP_sound {r : Nat} {K : List (Nat × SV) → Prop} : ∀ {l : List (Nat × SV)}, sbP r (η r).A (η r).cap l K → ∃ l', K l' ∧ (l'.map fun p => (p.1, den η p.2)) = l.map fun p => (p.1, den η p.2)
  | [], h => ⟨_, h, rfl⟩
  | (n, x) :: l, h => by
    simp only [sbP] at h
    obtain ⟨x', h, hd, _⟩ := sbV_sound (η := η) rfl rfl h
    obtain ⟨l', h, h1⟩ := sbP_sound h
    exact ⟨_, h, by simp only [List.map_cons, h1, hd]⟩
theorem sealPs_sound {K : List (Nat × SV) → St → Mem → Prop} : ∀ {f : Nat} {l : List (Nat × SV)} {st : St} {m : Mem}, sealPs f st m l K → Good B ops η m st a w →
    ∃ l' st' m', K l' st' m' ∧ Good B ops η m' st' a w ∧ (l'.map fun p => (p.1, den η p.2)) = l.map fun p => (p.1, den η p.2)
  | 0, l, st, m, h, hG => ⟨l, st, m, h, hG, rfl⟩
  | f + 1, l, st, m, h, hG => by
    simp only [sealPs] at h
    split at h
    · exact ⟨l, st, m, h, hG, rfl⟩
    · obtain ⟨st', m', h, hG'⟩ := sealE_sound hG h
      obtain ⟨l', h, h1⟩ := sbP_sound h
      obtain ⟨l'', st'', m'', hk, hg, h3⟩ := sealPs_sound h hG'
      exact ⟨l'', st'', m'', hk, hg, h3.trans h1⟩

theorem sealIn_sound (hG : Good B ops η m st a w) {x v : SV} {K : SV → St → Mem → Prop} (h : sealIn st m x v K) : ∃ v' st' m', K v' st' m' ∧ Good B ops η m' st' a w ∧ den η v' = den η v := by
  unfold sealIn at h
  split at h
  · split at h
    · obtain ⟨l', st', m', h, hg, _, h2⟩ := sealXs_sound h hG
      rcases l' with _ | ⟨y, _ | ⟨z, l2⟩⟩
      · exact h.elim
      · simp only [dent, List.cons.injEq, and_true] at h2
        exact ⟨y, st', m', h, hg, h2⟩
      · exact h.elim
    · exact ⟨v, st, m, h, hG, rfl⟩
  · exact ⟨v, st, m, h, hG, rfl⟩

theorem bytesE_sound (hT : TOk P T) (hG : Good B ops η m st a w) {s d : TypeId} {x : SV} {K : SV → St → Mem → Prop} (h : bytesE T st m s d x K) :
    ∃ v st' m' w', K v st' m' ∧ (convert s d (den η x)).run P w = .ok (den η v) w' ∧ Good B ops η m' st' a w' := by
  unfold bytesE at h
  split at h
  · rename_i r l
    split at h
    case h_2 => exact h.elim
    rename_i ta hta hsd
    obtain rfl := beq_eq hsd
    have hu := (hT s ta hta).1
    split at h
    case h_2 => exact h.elim
    rename_i e hd
    rw [hd] at hu
    split at h
    case h_2 => exact h.elim
    rename_i te hte
    have hue := (hT e te hte).1
    split at h
    case h_2 => exact h.elim
    rename_i hde
    rw [hde] at hue
    split at h
    case h_2 => exact h.elim
    rename_i e' z n xs hl
    obtain ⟨hn, h⟩ := h
    obtain ⟨e1, z1, n1, xs1, hl1, hk⟩ := sealE_out (B := B) hG.T h
    rw [hl] at hl1
    cases hl1
    obtain ⟨⟨hxl, hx1⟩, ⟨_, hk0, _⟩ | ⟨b, cur, hA, ho, hb, hkc, hcm, hcur, htake⟩⟩ := (hG.H.ck r _ hl).2
    · omega
    have hfr : (w.freeze ⟨b, cur.size, none⟩ 1).heap[b]? = some (.cells cur e' (cur.size, cur.size + 1)) := by
      simp [World.freeze, Array.getElem?_modify, hb]
    have hfo : ∀ k, k ≠ b → (w.freeze ⟨b, cur.size, none⟩ 1).heap[k]? = w.heap[k]? := by
      intro k hk
      simp [World.freeze, Array.getElem?_modify, Ne.symm hk]
    obtain ⟨m', hS, hh⟩ := hG.H.sealed hl (w' := w.freeze ⟨b, cur.size, none⟩ 1) (fr := (cur.size, cur.size + 1))
      (fun b' cur' ho' hb' => by rw [ho] at ho'; cases ho'; rw [hb] at hb'; cases hb'; exact hfr) (fun k hk => hfo k (fun e => hk (by rw [e]; exact ho)))
      (by simp [World.freeze]) rfl rfl rfl
    obtain ⟨st', hk, hg⟩ := hk _ m' hS.1 hh
    refine ⟨_, st', m', _, hk, ?_, hg⟩
    have hsh : w.shape? b = some (e', cur.size) := by simp [World.shape?, hb]
    simp only [den, hA]
    simp [convert, run_underlying hu, run_underlying hue, markStringish, shape, freeze, Sem.run, hsh]
  · obtain ⟨v, hk, hr⟩ := convV_sound (η := η) hT h
    exact ⟨v, st, m, w, hk, hr w, hG⟩
end
end Go.Proofs.Ytjpjiniclibgkaa.Sx

namespace Go.Proofs.Ytjpjiniclibgkaa.Sx

theorem flat_get (zs : List Value) (hz : 0 < zs.length) : ∀ (n i : Nat), i < n * zs.length → (repl n zs)[i]? = zs[i % zs.length]?
  | 0, i, h => by simp at h
  | n + 1, i, h => by
    rw [repl, List.replicate_succ, List.flatten_cons]
    by_cases hi : i < zs.length
    · rw [List.getElem?_append_left hi, Nat.mod_eq_of_lt hi]
    · have h2 : i < n * zs.length + zs.length := by rw [← Nat.succ_mul]; exact h
      rw [List.getElem?_append_right (by omega), ← repl, flat_get zs hz n (i - zs.length) (by omega), ← Nat.mod_eq_sub_mod (by omega)]
theorem repl_length (n : Nat) (zs : List Value) : (repl n zs).length = n * zs.length := by simp [repl]
/-- The cells that make lays: the zero value's, over and over. -/
theorem made_repl (z : Array Value) (n k : Nat) (hz : z.size = k) : ((Array.range (n * k)).map (z[· % z.size]!)).toList = repl n z.toList := by
  subst hz
  apply List.ext_getElem?
  intro i
  by_cases hi : i < n * z.size
  · have hp : 0 < z.size := by rcases Nat.eq_zero_or_pos z.size with h | h; rw [h] at hi; omega; exact h
    have hm : i % z.size < z.size := Nat.mod_lt _ hp
    rw [flat_get z.toList (by simpa using hp) n i (by simpa using hi)]
    simp [hi, hm]
  · rw [List.getElem?_eq_none (by simp; omega), List.getElem?_eq_none (by rw [repl_length]; simp; omega)]
theorem repl_take (zs : List Value) (n k : Nat) (h : k ≤ n) : (repl n zs).take (k * zs.length) = repl k zs := by
  obtain ⟨d, rfl⟩ : ∃ d, n = k + d := ⟨n - k, by omega⟩
  rw [repl, ← List.replicate_append_replicate, List.flatten_append, ← repl, List.take_left' (repl_length k zs)]

section
variable {P : Program} {T : Tbl} (hT : TOk P T) {B : Base} {ops : List Oper} {η : Names} {m : Mem} {st : St} {a : Act} {w : World} (hG : Good B ops η m st a w)

include hT hG in
theorem makeE_sound {t : TypeId} {l c : SV} {K : SV → St → Prop} (h : makeE T st t l c K) :
    ∃ v η' st' w', K v st' ∧ (Instr.makeSlice t (den η l) (den η c)).run P w = .ok (den η' v) w' ∧ Good B ops η' m st' a w' := by
  unfold makeE at h
  split at h
  case h_2 => exact h.elim
  rename_i ti x y hti
  split at h
  case h_2 => exact h.elim
  rename_i e hd
  have hu := (hT t ti hti).1
  rw [hd] at hu
  split at h
  case h_2 => exact h.elim
  rename_i te hte
  obtain ⟨_, hzcl, hzsz, hzg, ⟨i, hi, hisz, hiby, hiz⟩, _⟩ := hT e te hte
  split at h
  case h_2 => exact h.elim
  rename_i hfit
  obtain ⟨⟨h0, h1, hby, hml⟩, h⟩ := h
  have hcv := cellsV_eq (η := η0) hzcl hfit
  have hrun := run_make (P := P) w t e i _ hu hi hiz .i64 .i64 x y h0 h1 (by rw [hiby]; rw [Int.mul_comm]; omega) (by omega)
  have hzl : (cellsV te.z).length = te.size := by rw [hcv, Array.length_toList, hzsz]
  have hml' : (madeCells (den η0 te.z).cells (y.toNat * i.size)).toList = repl y.toNat (cellsV te.z) := by
    rw [hisz, hcv]
    exact made_repl _ _ _ hzsz
  obtain ⟨v, η', st', hk, hg, hv⟩ := newRow_sound hG (cap := y.toNat) (cur := madeCells (den η0 te.z).cells (y.toNat * i.size)) h (by rw [repl_length, hzl])
    (by
      intro u hu
      simp only [repl, List.mem_flatten, List.mem_replicate] at hu
      obtain ⟨l, ⟨_, rfl⟩, hu⟩ := hu
      exact fits_one η0 hfit u (by rw [← hcv]; exact hu))
    (by omega) (by simp only [maxLen]; omega) (by rw [← Array.length_toList, hml', repl_length, hzl]) (by rw [hml', ← hzl]; exact repl_take _ _ _ (by omega))
  exact ⟨v, η', st', _, hk, by simp only [den]; rw [hrun, hv], hg⟩

theorem repK_sound {K : List SV → Prop} : ∀ {n : Nat} {zs acc : List SV}, buildSliceE.repK n zs acc K → ∃ r, K r ∧ ∀ η, dens η r = repl n (dens η zs) ++ dens η acc
  | 0, zs, acc, h => ⟨acc, h, fun η => by simp [repl]⟩
  | n + 1, zs, acc, h => by
    simp only [buildSliceE.repK, appK_eq] at h
    obtain ⟨r, hk, hr⟩ := repK_sound h
    refine ⟨r, hk, fun η => ?_⟩
    rw [hr, dens_append, ← List.append_assoc]
    congr 1
    simp only [repl, List.replicate_succ', List.flatten_append, List.flatten_singleton]

include hT hG in
theorem buildSliceE_sound {t : TypeId} {n : Nat} {ps : List (Nat × SV)} {K : SV → St → Prop} (h : buildSliceE T st t n ps K) {qs : Array (Nat × Value)} (hq : qs.toList = ps.map fun p => (p.1, den η p.2)) :
    ∃ v η' st' w', K v st' ∧ (Instr.buildSlice t n qs).run P w = .ok (den η' v) w' ∧ Good B ops η' m st' a w' := by
  unfold buildSliceE at h
  split at h
  case h_2 => exact h.elim
  rename_i ti hti
  split at h
  case h_2 => exact h.elim
  rename_i e hd
  have hu := (hT t ti hti).1
  rw [hd] at hu
  split at h
  case h_2 => exact h.elim
  rename_i te hte
  have hs := run_size hT (w := w) hte
  obtain ⟨_, hzcl, hzsz, hzg, ⟨i, hi, hisz, hiby, hiz⟩, _⟩ := hT e te hte
  have hzr := run_zero hT η0 (w := w) hte
  split at h
  case h_2 => exact h.elim
  rename_i hfit
  obtain ⟨zs, h, hzs⟩ := parts_sound h
  obtain ⟨zz, h, hzz⟩ := repK_sound h
  obtain ⟨cs, h, hf, hfl⟩ := fillA_sound η h
  split at h
  case h_2 => exact h.elim
  rename_i hcl hle
  simp only [Bool.and_eq_true] at hcl hle
  have hle1 := ble_le hle.1
  have hle2 := ble_le hle.2
  have hzl := hzs η (fits_or hfit)
  have hz0 : (den η te.z).cells.size = te.size := by rw [den_cl η η0 te.z hzcl]; exact hzsz
  have hbase : ((Array.range (n * te.size)).map ((den η te.z).cells[· % (den η te.z).cells.size]!)) = (dens η zz).toArray := by
    apply Array.ext'
    rw [made_repl _ _ _ hz0, hzl]
    simp only [hzz η, dens, List.append_nil]
  have hlen : (dens η cs).length = n * te.size := by
    rw [hfl, hzz η, List.length_append, repl_length, ← hzl, Array.length_toList, hz0]
    simp [dens]
  have hde : dens η0 cs = dens η cs := dens_cl η0 η cs hcl.1
  obtain ⟨v, η', st', hk, hg, hv⟩ := newRow_sound hG (cap := n) (cur := (dens η cs).toArray) h (by rw [hde, hlen]) (plains_one η0 hcl.2) (Nat.le_refl _) (by simp only [maxLen]; omega) (by simpa using hlen)
    (by rw [hde, ← hlen]; simp)
  refine ⟨v, η', st', _, hk, ?_, hg⟩
  have hzr := run_zero hT η (w := w) hte
  have hn24 : ¬ (n * te.size > 2 ^ 24) := by omega
  by_cases h0 : n * te.size = 0
  · have hzz0 : dens η zz = [] := by
      have := hfl; rw [hlen, h0] at this
      exact List.eq_nil_of_length_eq_zero this.symm
    rw [hzz0] at hf
    have hl0 : ¬ (0 > 2 ^ 24) := by omega
    simp only [Instr.buildSlice, Sem.run_bind, run_underlying hu, Result.andThen_ok, hs, h0, if_neg hl0, if_true, Sem.run_pure, hq]
    have hr0 : Array.map (fun x => (#[] : Array Value)[x % (#[] : Array Value).size]!) (Array.range 0) = #[] := by simp
    rw [hr0, hf, hv]
    rfl
  · simp only [Instr.buildSlice, Sem.run_bind, run_underlying hu, Result.andThen_ok, hs, if_neg hn24, h0, if_false, hzr, Sem.run_pure, hbase, hq]
    rw [hf, hv]
    rfl

/-- A function that has a body and is called as any other. -/
def Callable (P : Program) (f : FuncId) : Prop := ∃ fn, P.funcs[f]? = some fn ∧ (fn.name == "runtime.NumGoroutine") = false ∧ fn.body.isNone = false

/-- What is to be shown of calls: what the evaluator lays at a call is enough for the call. -/
def CallsOk (P : Program) (CP : CallF) : Prop := ∀ (f : FuncId) (xs : List SV) (st : St) (m : Mem) (K : Out → St → Mem → Prop), CP f xs st m K →
  Callable P f ∧ ∀ (B : Base) (ops : List Oper) (η : Names) (a : Act) (w : World), Good B ops η m st a w →
    Calls P f (dent η xs).toArray w fun e w' => ∃ o η' st' m', K o st' m' ∧ Good B ops η' m' st' a w' ∧
      (match o with | .ret x => e = .returned (den η' x) | .pan x => e = .panicked [{ v := den η' x, recovered := false }])

/-- And of the blocks that may be written: the call did not find them. -/
def CPOkB (P : Program) (B : Base) (CP : CallP) : Prop := CallsOk P CP.c ∧ ∀ b, CP.z b → B.m0 b = none
def CPOk (P : Program) (CP : CallP) : Prop := ∀ B, CPOkB P B CP

theorem run_callFunc {f : FuncId} (h : Callable P f) (args : Array Value) : (callFunc f args).run P w = .ok (.enter f args) w := by
  obtain ⟨fn, hf, hn, hb⟩ := h
  have hp : program.run P w = .ok P w := rfl
  simp only [callFunc, Sem.run_bind, hp, Result.andThen_ok, hf, hn, hb, Bool.false_eq_true, if_false]
  rfl

theorem dent_append (η : Names) : ∀ a b : List SV, dent η (a ++ b) = dent η a ++ dent η b
  | [], _ => rfl
  | x :: r, b => by simp only [List.cons_append, dent, dent_append η r b]

include hT hG in
theorem loudV_sound {CP : CallP} (hCP : CPOkB P B CP) {o : Oper} {K KP : SV → St → Mem → Prop} (h : loudV T CP st m o.op K KP) {Q : Exit → Act → World → Prop} {next : Act → World → Prop}
    (hnext : ∀ x η' st' m' w', K x st' m' → Good B ops η' m' st' a w' → next (a.put o.dst (den η' x)) w')
    (hpan : ∀ x η' st' m' w', KP x st' m' → Good B ops η' m' st' a w' → Q (.panic [{ v := den η' x, recovered := false }]) a w') : o.wp P a w next Q := by
  have ht := hG.T
  obtain ⟨dst, op, ty, pos, after, guard⟩ := o
  simp only [Oper.wp]
  cases op <;> first | exact h.elim | skip
  case alloc t =>
    simp only [loudV] at h
    split at h
    case h_2 => exact h.elim
    rename_i ti hti
    have hz := run_zero hT η (w := w) hti
    split at h
    case h_2 => exact h.elim
    rename_i hfit
    obtain ⟨cs, h, hcs⟩ := parts_sound h
    obtain ⟨x, η', st', hk, hg, hx⟩ := newSt_sound hG h
    have hc := hcs η (fits_or hfit)
    have hrun : (execOp a.eval ⟨dst, .alloc t, ty, pos, after, guard⟩).run P w = .ok (.value (den η' x)) (w.alloc (.cells (dens η cs).toArray t)) := by
      simp only [execOp, Instr.alloc, newVar, Sem.run_bind, hz, Result.andThen_ok]
      rw [hx, ← hc, Array.toArray_toList]
      rfl
    rw [hrun]
    exact hnext _ _ _ _ _ hk hg
  case box t x =>
    simp only [loudV] at h
    obtain ⟨v, h, hv⟩ := argAt_sound ht h
    have hv := hv rfl
    split at h
    case h_2 => exact h.elim
    rename_i ti hti
    split at h
    case h_2 => exact h.elim
    rename_i hfit
    obtain ⟨cs, h, hcs⟩ := parts_sound h
    obtain ⟨x', η', st', hk, hg, hx⟩ := newSt_sound hG h
    have hc := hcs η (fits_or hfit)
    have hrun : (execOp a.eval ⟨dst, .box t x, ty, pos, after, guard⟩).run P w = .ok (.value (den η' x')) (w.alloc (.cells (dens η cs).toArray t)) := by
      simp only [execOp, hv, Instr.box, newVar, Sem.run_bind]
      rw [hx, ← hc, Array.toArray_toList]
      rfl
    rw [hrun]
    exact hnext _ _ _ _ _ hk hg
  case store t x v =>
    simp only [loudV] at h
    obtain ⟨u, h, hu⟩ := argAt_sound ht h
    obtain ⟨v0, h, hv⟩ := argAt_sound ht h
    obtain ⟨v', st1, m1, h, hG1, hvv⟩ := sealIn_sound hG h
    obtain ⟨st', m', w', hk, hr, hg⟩ := storeG_sound hT hG1 hCP.2 h
    have hrun : (execOp a.eval ⟨dst, .store t x v, ty, pos, after, guard⟩).run P w = .ok .skip w' := by
      rw [hvv] at hr
      simp only [execOp, hu rfl, hv rfl, Sem.run_bind, hr, Result.andThen_ok]
      rfl
    rw [hrun]
    exact hnext _ η _ _ _ hk hg
  case slice t x lo hi mx =>
    cases mx with
    | some _ => exact h.elim
    | none =>
      simp only [loudV] at h
      obtain ⟨v, h, hv⟩ := argAt_sound ht h
      obtain ⟨l, h, hlo⟩ := optArg_sound ht h
      obtain ⟨u, h, hhi⟩ := optArg_sound ht h
      obtain ⟨vs, st', m', h, hg, _, h2⟩ := sealXs_sound h hG
      rcases vs with _ | ⟨y, _ | ⟨z, l2⟩⟩
      · exact h.elim
      · simp only [dent, List.cons.injEq, and_true] at h2
        obtain ⟨r, hk, hr⟩ := sliceV_sound (η := η) (m := m') hT (C := fun c => c) (Tg := True) (fun c hc _ => hc) h
        have hr := hr w hg.H.hq trivial
        rw [h2] at hr
        have hrun : (execOp a.eval ⟨dst, .slice t x lo hi none, ty, pos, after, guard⟩).run P w = .ok (.value (den η r)) w := by
          simp only [execOp, hv rfl, hlo rfl, hhi rfl, Option.map_none, Sem.run_bind, hr, Result.andThen_ok]
          rfl
        rw [hrun]
        exact hnext _ _ _ _ _ hk hg
      · exact h.elim
  case convert s d x =>
    simp only [loudV] at h
    obtain ⟨v, h, hv⟩ := argAt_sound ht h
    obtain ⟨r, st', m', w', hk, hr, hg⟩ := bytesE_sound hT hG h
    have hrun : (execOp a.eval ⟨dst, .convert s d x, ty, pos, after, guard⟩).run P w = .ok (.value (den η r)) w' := by
      simp only [execOp, hv rfl, Sem.run_bind, hr, Result.andThen_ok]
      rfl
    rw [hrun]
    exact hnext _ η _ _ _ hk hg
  case makeSlice t l c =>
    simp only [loudV] at h
    obtain ⟨l', h, hl⟩ := argAt_sound ht h
    obtain ⟨c', h, hc⟩ := argAt_sound ht h
    obtain ⟨v, η', st', w', hk, hr, hg⟩ := makeE_sound hT hG h
    have hrun : (execOp a.eval ⟨dst, .makeSlice t l c, ty, pos, after, guard⟩).run P w = .ok (.value (den η' v)) w' := by
      simp only [execOp, hl rfl, hc rfl, Sem.run_bind, hr, Result.andThen_ok]
      rfl
    rw [hrun]
    exact hnext _ _ _ _ _ hk hg
  case buildSlice t n ps =>
    simp only [loudV] at h
    obtain ⟨vs, h, hvs⟩ := pairs_sound ht h
    obtain ⟨vs', st1, m1, h, hG1, hvv⟩ := sealPs_sound h hG
    have hps : (ps.map fun (p : Nat × Operand) => (p.1, a.eval p.2)).toList = vs'.map fun p => (p.1, den η p.2) := by rw [Array.toList_map, hvv]; exact hvs rfl
    obtain ⟨v, η', st', w', hk, hr, hg⟩ := buildSliceE_sound hT hG1 h hps
    have hrun : (execOp a.eval ⟨dst, .buildSlice t n ps, ty, pos, after, guard⟩).run P w = .ok (.value (den η' v)) w' := by
      simp only [execOp, Sem.run_bind]
      rw [hr]
      rfl
    rw [hrun]
    exact hnext _ _ _ _ _ hk hg
  case call c =>
    obtain ⟨callee, args, argTypes⟩ := c
    cases callee
    case invoke => exact h.elim
    case builtin b =>
      cases b <;> first | exact h.elim | skip
      simp only [loudV] at h
      obtain ⟨xs, hq, hxs⟩ := argsAt_sound ht h
      clear h
      revert hq
      intro h
      split at h
      case h_2 => exact h.elim
      rename_i t u s x hts
      have hat : argTypes = #[t, u] := by rw [← Array.toList_inj]; exact hts
      subst hat
      have hargs : (args.map a.eval) = #[den η s, den η x] := by rw [← Array.toList_inj, Array.toList_map]; exact hxs rfl
      split at h
      case h_2 => exact h.elim
      rename_i tu htu
      have huu := (hT u tu htu).1
      have hor : (∃ e', P.underlying u = some (.slice e')) ∨ P.underlying u = some .string := by
        split at h
        · rename_i e' hd; rw [hd] at huu; exact .inl ⟨e', huu⟩
        · rename_i hd; rw [hd] at huu; exact .inr huu
        · exact h.elim
      have happ : appendE T st m t s x fun x st => K x st m := by
        split at h
        · exact h
        · exact h
        · exact h.elim
      obtain ⟨v, η', st', w', hk, hr, hg⟩ := appendE_sound hT hG (ty := ty) hor happ
      have hrun : (execOp a.eval ⟨dst, .call ⟨.builtin .append, args, #[t, u]⟩, ty, pos, after, guard⟩).run P w = .ok (.value (den η' v)) w' := by
        simp only [execOp, resolve, Sem.run_bind, Sem.run_pure, Result.andThen_ok, invoke, builtin, hargs, hr]
      rw [hrun]
      exact hnext _ _ _ _ _ hk hg
    case value f =>
      simp only [loudV] at h
      obtain ⟨f', h, hf⟩ := argAt_sound ht h
      obtain ⟨xs, h, hxs⟩ := argsAt_sound ht h
      split at h
      case h_2 => exact h.elim
      rename_i fid first caught hold
      clear hold
      rw [appK_eq, appK_eq] at h
      obtain ⟨hcall, hc⟩ := hCP.1 _ _ _ _ _ h
      have hargs : (args.map a.eval) = (dent η xs).toArray := by rw [← Array.toList_inj, Array.toList_map]; exact hxs rfl
      have hrun : (execOp a.eval ⟨dst, .call ⟨.value f, args, argTypes⟩, ty, pos, after, guard⟩).run P w = .ok (.enter fid (dent η (first ++ xs ++ caught)).toArray) w := by
        simp only [execOp, resolve, hf rfl, den, Deferred.ofValue, Sem.run_bind, Sem.run_pure, Result.andThen_ok, invoke, hargs]
        rw [run_callFunc hcall]
        simp only [dent_append, List.append_toArray]
      rw [hrun]
      refine (hc B ops η a w hG).mono fun e w' ⟨o, η', st', m', hk, hg, he⟩ => ?_
      cases o with
      | ret x =>
        simp only at he
        subst he
        simp only [force_eq] at hk
        exact hnext _ _ _ _ _ hk hg
      | pan x =>
        simp only at he
        subst he
        exact hpan _ _ _ _ _ hk hg
end
end Go.Proofs.Ytjpjiniclibgkaa.Sx

namespace Go.Proofs.Ytjpjiniclibgkaa.Sx

/-! ### tags and tests -/
theorem tagB_in {gs gs' : Gs} (hg : ∀ j g tg, lookG gs' j = some (g, tg) → ∃ tg', lookG gs j = some (g, tg')) : ∀ {tag : Tag}, tagIn gs' tag = true → tagB gs' tag = tagB gs tag
  | [], _ => rfl
  | (j, w) :: r, h => by
    simp only [tagIn, Bool.and_eq_true] at h
    simp only [tagB]
    rw [tagB_in hg h.2]
    congr 1
    cases hl : lookG gs' j with
    | none => rw [hl] at h; cases h.1
    | some p =>
      obtain ⟨g, tg⟩ := p
      obtain ⟨tg', hl'⟩ := hg j g tg hl
      rw [hl']
theorem tagsIn_look {gs : Gs} : ∀ {t : List Slot} {k : Nat} {tag : Tag} {x : SV}, tagsIn gs t = true → look t k = some (tag, x) → tagIn gs tag = true
  | [], _, _, _, _, h => by cases h
  | ⟨n, tg, y⟩ :: r, k, tag, x, ho, h => by
    simp only [tagsIn, Bool.and_eq_true] at ho
    simp only [look] at h
    split at h
    · cases h; exact ho.1
    · exact tagsIn_look ho.2 h
theorem tagsInG_look {gs : Gs} : ∀ {l : Gs} {j : Nat} {g : Bool} {tag : Tag}, tagsInG gs l = true → lookG l j = some (g, tag) → tagIn gs tag = true
  | [], _, _, _, _, h => by cases h
  | (n, g', tg) :: r, j, g, tag, ho, h => by
    simp only [tagsInG, Bool.and_eq_true] at ho
    simp only [lookG] at h
    split at h
    · cases h; exact ho.1
    · exact tagsInG_look ho.2 h
theorem dstOf_arr {ops : Array Oper} {j : Nat} : dstOf ops.toList j = (ops[j]?).bind (·.dst) := by
  rw [← Array.getElem?_toList]
  generalize ops.toList = l
  induction l generalizing j with
  | nil => rfl
  | cons o r ih => cases j <;> simp [dstOf, ih]

section
variable {P : Program} {T : Tbl} (hT : TOk P T) {B : Base} {ops : Array Oper} {η : Names} {m : Mem} {st : St} {a : Act} {w : World}

theorem gsFree_sound {l : List Oper} {d : Nat} : ∀ {gs : Gs}, gsFree l d gs = true → ∀ j p d', lookG gs j = some p → dstOf l j = some d' → d' ≠ d
  | [], _, _, _, _, h, _ => by cases h
  | (i, q) :: r, hf, j, p, d', h, hd => by
    simp only [gsFree, Bool.and_eq_true] at hf
    simp only [lookG] at h
    split at h
    · rename_i hb
      obtain rfl := beq_eq hb
      have h1 := hf.1
      rw [hd] at h1
      intro e
      subst e
      simp [Nat.beq_refl] at h1
    · exact gsFree_sound hf.2 j p d' h hd

theorem putS_sound {l : List Oper} {d : Option Nat} {tag : Tag} {x : SV} {K : St → Prop} (hG : Good B l η m st a w) (h : putS l st d tag x K) {v : Value} (hv : v = if tagB st.gs tag then den η x else undef) :
    ∃ st', K st' ∧ Good B l η m st' (a.put d v) w ∧ st'.gs = st.gs := by
  cases d with
  | none => exact ⟨st, h, hG, rfl⟩
  | some d =>
    simp only [putS] at h
    split at h
    · rename_i hb
      simp only [Bool.and_eq_true] at hb
      obtain ⟨hlt, hfree⟩ := hb
      have hlt := blt_lt hlt
      obtain ⟨sz, t, gs, hp, nx⟩ := st
      refine ⟨_, h, ⟨hG.H, ⟨?_, hG.T.df, fun k tg y hl => ?_, fun j g tg hl => ?_⟩⟩, rfl⟩
      · simp only [Act.put, Array.size_setIfInBounds]
        exact hG.T.sz
      · simp only [look] at hl
        split at hl
        · rename_i hbe
          obtain rfl := beq_eq hbe
          cases hl
          have : d < a.tmps.size := by rw [hG.T.sz]; exact hlt
          simp only [Act.put]
          rw [Array.getElem?_setIfInBounds_self_of_lt this, hv]
        · rename_i hbe
          have hne : d ≠ k := fun e => by subst e; rw [Nat.beq_refl] at hbe; cases hbe
          simp only [Act.put]
          rw [Array.getElem?_setIfInBounds_ne hne]
          exact hG.T.sl k tg y hl
      · obtain ⟨d', hd', hl'⟩ := hG.T.gs j g tg hl
        have hne : d' ≠ d := gsFree_sound hfree j _ d' hl hd'
        refine ⟨d', hd', ?_⟩
        simp only [look, beq_ne (Ne.symm hne)]
        exact hl'
    · exact h.elim

/-- What a guarded operation's guard says. -/
theorem wanted_eq {o : Oper} {j : Nat} {w0 : Bool} {d : Nat} {tg : Tag} {g : Bool} (hT' : HoldT ops.toList η st a) (hg : o.guard = some (j, w0)) (hd : dstOf ops.toList j = some d)
    (hl : look st.t d = some (tg, .b g)) : Region.wanted o (yielded ops a.tmps) = (tagB st.gs tg && (g == w0)) := by
  have hs := hT'.sl d tg _ hl
  rw [dstOf_arr] at hd
  simp only [Region.wanted, hg, yielded, hd, Option.bind_some, hs]
  cases ht : tagB st.gs tg
  · simp [undef]
  · cases g <;> cases w0 <;> simp [den]

theorem addG_sound {l : List Oper} {j : Nat} {g : Bool} {tg : Tag} {d : Nat} {K : St → Prop} (hG : Good B l η m st a w) (hd : dstOf l j = some d) (hl : look st.t d = some (tg, .b g)) (h : addG st j g tg K) :
    ∃ st', K st' ∧ Good B l η m st' a w ∧ st'.t = st.t ∧ lookG st'.gs j = some (g, tg) ∧ tagB st'.gs tg = tagB st.gs tg := by
  unfold addG at h
  split at h
  · rename_i p hp
    obtain ⟨g0, tg0⟩ := p
    obtain ⟨d', hd', hl'⟩ := hG.T.gs j g0 tg0 hp
    rw [hd] at hd'
    cases hd'
    rw [hl] at hl'
    cases hl'
    exact ⟨st, h, hG, rfl, hp, rfl⟩
  · rename_i hn
    split at h
    · rename_i hb
      simp only [Bool.and_eq_true] at hb
      obtain ⟨sz, t, gs, hp, nx⟩ := st
      have hgrow : ∀ i g' tg', lookG gs i = some (g', tg') → ∃ tg'', lookG ((j, g, tg) :: gs) i = some (g', tg'') := by
        intro i g' tg' hi
        refine ⟨tg', ?_⟩
        simp only [lookG]
        have : j ≠ i := fun e => by subst e; simp only at hn; rw [hn] at hi; cases hi
        rw [beq_ne this]
        exact hi
      have hsame : ∀ {tag : Tag}, tagIn gs tag = true → tagB ((j, g, tg) :: gs) tag = tagB gs tag := fun ht => (tagB_in hgrow ht).symm
      refine ⟨_, h, ⟨hG.H, ⟨hG.T.sz, hG.T.df, fun k tag x hk => ?_, fun i g' tg' hi => ?_⟩⟩, rfl, by simp [lookG, Nat.beq_refl], hsame (tagsIn_look hb.1 hl)⟩
      · have := hG.T.sl k tag x hk
        rw [this]
        simp only [hsame (tagsIn_look hb.1 hk)]
      · simp only [lookG] at hi
        split at hi
        · rename_i hbe
          obtain rfl := beq_eq hbe
          cases hi
          exact ⟨d, hd, hl⟩
        · exact hG.T.gs i g' tg' hi
    · exact h.elim
end
end Go.Proofs.Ytjpjiniclibgkaa.Sx

namespace Go.Proofs.Ytjpjiniclibgkaa.Sx

theorem settleTag_sound {gs : Gs} {j : Nat} {b : Bool} {tj : Tag} (hj : lookG gs j = some (b, tj)) : ∀ {tag : Tag}, tagB gs tag = (match settleTag j b tag with | some tag' => tagB gs tag' | none => false)
  | [] => rfl
  | (i, u) :: r => by
    have ih := settleTag_sound hj (tag := r)
    simp only [settleTag]
    by_cases hb : Nat.beq i j = true
    · obtain rfl := beq_eq hb
      simp only [Nat.beq_refl]
      simp only [tagB, hj]
      cases u <;> cases b <;> simp [ih]
    · have hb' : Nat.beq i j = false := by cases h : Nat.beq i j with | true => exact absurd h hb | false => rfl
      simp only [hb']
      simp only [tagB]
      rw [ih]
      cases settleTag j b r with
      | none => simp
      | some tag' => simp [tagB]

theorem settle_sound {j : Nat} {b : Bool} {K : List Slot → Prop} : ∀ {t : List Slot}, settle j b t K →
    ∃ t', K t' ∧ ∀ k, look t' k = (look t k).map fun p => match settleTag j b p.1 with | some tag' => (tag', p.2) | none => ([], .ud)
  | [], h => ⟨[], h, fun _ => rfl⟩
  | ⟨n, tag, x⟩ :: r, h => by
    simp only [settle] at h
    obtain ⟨r', h, hr⟩ := settle_sound h
    split at h
    · rename_i tag' hs
      refine ⟨_, h, fun k => ?_⟩
      simp only [look]
      by_cases hb : Nat.beq n k = true
      · simp [hb, hs]
      · have hb' : Nat.beq n k = false := by cases h : Nat.beq n k with | true => exact absurd h hb | false => rfl
        simp only [hb', hr]
    · rename_i hs
      refine ⟨_, h, fun k => ?_⟩
      simp only [look]
      by_cases hb : Nat.beq n k = true
      · simp [hb, hs]
      · have hb' : Nat.beq n k = false := by cases h : Nat.beq n k with | true => exact absurd h hb | false => rfl
        simp only [hb', hr]
theorem settleG_sound {j : Nat} {b : Bool} {K : Gs → Prop} : ∀ {gs : Gs}, settleG j b gs K →
    ∃ gs', K gs' ∧ ∀ i g' tag', lookG gs' i = some (g', tag') → i ≠ j ∧ ∃ tag, lookG gs i = some (g', tag) ∧ settleTag j b tag = some tag'
  | [], h => ⟨[], h, fun _ _ _ h => by cases h⟩
  | (n, g, tag) :: r, h => by
    simp only [settleG] at h
    obtain ⟨r', h, hr⟩ := settleG_sound h
    split at h
    · rename_i hb
      refine ⟨r', h, fun i g' t' hl => ?_⟩
      obtain ⟨h1, t0, h2, h3⟩ := hr i g' t' hl
      refine ⟨h1, t0, ?_, h3⟩
      obtain rfl := beq_eq hb
      simp only [lookG]
      have hb' : Nat.beq n i = false := by cases h : Nat.beq n i with | true => exact absurd (beq_eq h).symm h1 | false => rfl
      simp only [hb', h2]
    · rename_i hb
      have hnj : n ≠ j := fun e => by subst e; rw [Nat.beq_refl] at hb; cases hb
      split at h
      · rename_i tag' hs
        refine ⟨_, h, fun i g' t' hl => ?_⟩
        simp only [lookG] at hl ⊢
        by_cases hb : Nat.beq n i = true
        · simp only [hb, Option.some.injEq, Prod.mk.injEq] at hl ⊢
          obtain ⟨rfl, rfl⟩ := hl
          obtain rfl := beq_eq hb
          exact ⟨hnj, tag, ⟨rfl, rfl⟩, hs⟩
        · have hb' : Nat.beq n i = false := by cases h : Nat.beq n i with | true => exact absurd h hb | false => rfl
          simp only [hb'] at hl ⊢
          exact hr i g' t' hl
      · rename_i hs
        split at h
        · rename_i hn
          refine ⟨_, h, fun i g' t' hl => ?_⟩
          simp only [lookG]
          by_cases hb : Nat.beq n i = true
          · obtain rfl := beq_eq hb
            rw [hn] at hl
            cases hl
          · have hb' : Nat.beq n i = false := by cases h : Nat.beq n i with | true => exact absurd h hb | false => rfl
            simp only [hb']
            exact hr i g' t' hl
        · exact h.elim

theorem lastT_mem {j : Nat} {w : Bool} : ∀ {tag : Tag}, lastT tag = some (j, w) → ∀ {gs : Gs} {g : Bool} {tg : Tag}, lookG gs j = some (g, tg) → tagB gs tag = true → g = w
  | [], h, _, _, _, _, _ => by cases h
  | [x], h, gs, g, tg, hl, ht => by
    simp only [lastT, Option.some.injEq] at h
    subst h
    simp only [tagB, hl, Bool.and_true, beq_iff_eq] at ht
    exact ht
  | x :: y :: r, h, gs, g, tg, hl, ht => by
    simp only [tagB, Bool.and_eq_true] at ht
    exact lastT_mem (tag := y :: r) h hl (by simp only [tagB, Bool.and_eq_true]; exact ht.2)

section
variable {P : Program} {T : Tbl} (hT : TOk P T) {B : Base} {ops : Array Oper} {η : Names} {m : Mem} {st : St} {a : Act} {w : World}

theorem chk_out {t : List Slot} {gs : Gs} {K : Prop} (h : chk t gs K) : tagsIn gs t = true ∧ tagsInG gs gs = true ∧ K := by
  unfold chk at h
  split at h
  · rename_i hb
    simp only [Bool.and_eq_true] at hb
    exact ⟨hb.1, hb.2, h⟩
  · exact h.elim

/-- Behind a decided test all that was known is known. -/
theorem settle_good {l : List Oper} (hG : Good B l η m st a w) {j : Nat} {b : Bool} {tj : Tag} (hj : lookG st.gs j = some (b, tj)) {t' : List Slot} {gs' : Gs}
    (ht : ∀ k, look t' k = (look st.t k).map fun p => match settleTag j b p.1 with | some tag' => (tag', p.2) | none => ([], .ud))
    (hg : ∀ i g' tag', lookG gs' i = some (g', tag') → i ≠ j ∧ ∃ tag, lookG st.gs i = some (g', tag) ∧ settleTag j b tag = some tag')
    (hin : tagsIn gs' t' = true) : Good B l η m ⟨st.sz, t', gs', st.h, st.nx⟩ a w ∧ (∀ tag, tagIn gs' tag = true → tagB gs' tag = tagB st.gs tag) := by
  have hsub : ∀ i g' tag', lookG gs' i = some (g', tag') → ∃ tg, lookG st.gs i = some (g', tg) := by
    intro i g' tag' hi
    obtain ⟨_, tag, hl, _⟩ := hg i g' tag' hi
    exact ⟨_, hl⟩
  have hsame : ∀ tag, tagIn gs' tag = true → tagB gs' tag = tagB st.gs tag := fun tag h => tagB_in hsub h
  refine ⟨⟨hG.H, ⟨hG.T.sz, hG.T.df, fun k tag x hl => ?_, fun i g' tag' hl => ?_⟩⟩, hsame⟩
  · have hi := hin
    rw [hsame tag (tagsIn_look hin hl)]
    rw [ht] at hl
    cases hs : look st.t k with
    | none => rw [hs] at hl; cases hl
    | some p =>
      obtain ⟨tag0, x0⟩ := p
      rw [hs] at hl
      have h0 := hG.T.sl k tag0 x0 hs
      rw [settleTag_sound hj (tag := tag0)] at h0
      simp only [Option.map_some] at hl
      cases hst : settleTag j b tag0 with
      | some tag1 =>
        rw [hst] at hl h0
        cases hl
        exact h0
      | none =>
        rw [hst] at hl h0
        cases hl
        simpa [tagB, den] using h0
  · obtain ⟨hij, tag, hl0, hst⟩ := hg i g' tag' hl
    obtain ⟨d, hd, hld⟩ := hG.T.gs i g' tag hl0
    refine ⟨d, hd, ?_⟩
    rw [ht, hld]
    simp only [Option.map_some, hst]

/-- A decided test's slot is marked. -/
theorem markS_sound {l : List Oper} (hG : Good B l η m st a w) {j : Nat} {b : Bool} {tj : Tag} (hj : dstOf l j ≠ none → ∀ d, dstOf l j = some d → tj = [] → look st.t d = some ([], .b b)) {K : List Slot → Prop}
    (h : markS l j b tj st.t st.gs K) : ∃ t', K t' ∧ Good B l η m ⟨st.sz, t', st.gs, st.h, st.nx⟩ a w := by
  unfold markS at h
  split at h
  · rename_i d hd
    split at h
    · rename_i hf
      have hl := hj (by rw [hd]; exact fun e => by cases e) d hd rfl
      refine ⟨_, h, hG.H, hG.T.sz, hG.T.df, fun k tag x hk => ?_, fun i g tg hi => ?_⟩
      · simp only [look] at hk
        split at hk
        · rename_i hb
          obtain rfl := beq_eq hb
          cases hk
          have := hG.T.sl d [] _ hl
          simpa [den, tagB] using this
        · exact hG.T.sl k tag x hk
      · obtain ⟨d', hd', hl'⟩ := hG.T.gs i g tg hi
        refine ⟨d', hd', ?_⟩
        simp only [look]
        have hne : Nat.beq d d' = false := by
          have := gsFree_sound hf i _ d' hi hd'
          cases h : Nat.beq d d' with
          | true => exact absurd (beq_eq h).symm this
          | false => rfl
        simp only [hne, hl']
    · exact h.elim
  · exact h.elim

theorem sideV_sound {l : List Oper} (hT' : HoldT l η st a) {tag : Tag} {kc : Nat} {u : Bool} {x : Operand} {K : SV → Prop} {tgc : Tag} {g : Bool} (hc : look st.t kc = some (tgc, .b g))
    (h : sideV l st tag kc u x K) : ∃ v, K v ∧ (tagB st.gs tag = true → g = u → a.eval x = den η v) := by
  have side : ∀ {tg : Tag}, sideOk l st.gs tag kc u tg = true → tagB st.gs tag = true → g = u → tagB st.gs tg = true := by
    intro tg
    induction tg with
    | nil => intros; rfl
    | cons p r ih =>
      obtain ⟨j, v⟩ := p
      intro hs htag hgu
      simp only [sideOk, Bool.and_eq_true, Bool.or_eq_true] at hs
      simp only [tagB, Bool.and_eq_true]
      refine ⟨?_, ih hs.2 htag hgu⟩
      rcases hs.1 with hm | ⟨hv, hd⟩
      · exact memT_sound hm htag
      · split at hd
        · rename_i d p hdst hlk
          obtain ⟨g0, tg0⟩ := p
          obtain rfl := beq_eq hd
          obtain ⟨d', hd', hl'⟩ := hT'.gs j g0 tg0 hlk
          rw [hdst] at hd'
          cases hd'
          rw [hc] at hl'
          cases hl'
          rw [hlk]
          simp only [beq_iff_eq] at hv ⊢
          rw [hgu, hv]
        · cases hd
  cases x with
  | tmp k =>
    simp only [sideV] at h
    split at h
    · rename_i tg v hl
      split at h
      · rename_i hs
        refine ⟨v, h, fun htag hgu => ?_⟩
        have := hT'.sl k tg v hl
        rw [side hs htag hgu] at this
        simp [Act.eval, this]
      · exact h.elim
    · exact h.elim
  | const v =>
    simp only [sideV, force_eq] at h
    exact ⟨_, h, fun _ _ => (den_ofV η v).symm⟩
  | global g => exact h.elim
  | func f => exact h.elim

theorem pickV_sound {l : List Oper} (hT' : HoldT l η st a) {tag : Tag} {c x y : Operand} {K : SV → Prop} (h : pickV l st tag c x y K) {o : Oper} (ho : o.op = .pick c x y) :
    ∃ v, K v ∧ ∀ w : World, (tagB st.gs tag = true → (execOp a.eval o).run P w = .ok (.value (den η v)) w) := by
  cases c with
  | tmp kc =>
    simp only [pickV] at h
    split at h
    · rename_i tgc v hc
      have settled : ∀ (b : Bool), subT tgc tag = true → v = .kb b → argAt st.t tag (if b = true then x else y) K → ∃ v, K v ∧ ∀ w : World, (tagB st.gs tag = true → (execOp a.eval o).run P w = .ok (.value (den η v)) w) := by
        intro b hsub hv h2
        clear h
        subst hv
        obtain ⟨v2, h3, hv⟩ := argAt_sound hT' h2
        refine ⟨v2, h3, fun w htag => ?_⟩
        have hcv : a.eval (.tmp kc) = .bool b := by
          have := hT'.sl kc tgc _ hc
          rw [subT_sound hsub htag] at this
          simp [Act.eval, this, den]
        obtain ⟨dst, op, ty, pos, after, guard⟩ := o
        simp only at ho
        subst ho
        simp only [execOp, hcv, asBool, Sem.run_bind, Sem.run_pure, Result.andThen_ok]
        rw [← hv htag]
        cases b <;> rfl
      split at h
      · rename_i hsub; exact settled true hsub rfl h
      · rename_i hsub; exact settled false hsub rfl h
      · rename_i g hsub
        obtain ⟨p, h, hp⟩ := sideV_sound hT' hc h
        obtain ⟨q, h, hq⟩ := sideV_sound hT' hc h
        have hcv : tagB st.gs tag = true → a.eval (.tmp kc) = .bool g := by
          intro htag
          have := hT'.sl kc tgc _ hc
          rw [subT_sound hsub htag] at this
          simp [Act.eval, this, den]
        have run : ∀ w : World, tagB st.gs tag = true → (execOp a.eval o).run P w = .ok (.value (if g = true then a.eval x else a.eval y)) w := by
          intro w htag
          obtain ⟨dst, op, ty, pos, after, guard⟩ := o
          simp only at ho
          subst ho
          simp only [execOp, hcv htag, asBool, Sem.run_bind, Sem.run_pure, Result.andThen_ok]
        split at h
        · rename_i bp bq
          refine ⟨_, h, fun w htag => ?_⟩
          rw [run w htag]
          cases g with
          | true => simp only [if_true, hp htag rfl, den]
          | false => simp only [Bool.false_eq_true, if_false, hq htag rfl, den]
        · rename_i bp bq
          obtain ⟨hg, h⟩ := h
          refine ⟨_, h, fun w htag => ?_⟩
          have hg := gc_out hg htag
          rw [run w htag, if_pos hg, hp htag hg]
        · rename_i bp bq
          obtain ⟨hg, h⟩ := h
          refine ⟨_, h, fun w htag => ?_⟩
          have hg := gc_out hg htag
          rw [run w htag, if_neg (by rw [hg]; decide), hq htag hg]
        · exact h.elim
      · exact h.elim
    · exact h.elim
  | const v => exact h.elim
  | global g => exact h.elim
  | func f => exact h.elim
end
end Go.Proofs.Ytjpjiniclibgkaa.Sx

namespace Go.Proofs.Ytjpjiniclibgkaa.Sx

theorem lastT_none : ∀ {tag : Tag}, lastT tag = none → tag = []
  | [], _ => rfl
  | [_], h => by cases h
  | _ :: y :: r, h => by have := lastT_none (tag := y :: r) h; cases this

section
variable {P : Program} {T : Tbl} (hT : TOk P T) {B : Base} {η : Names} {m : Mem} {st : St} {a : Act} {w : World}

theorem byGuard_sound {ops : Array Oper} {o : Oper} {plain skip : St → Prop} {tagged : St → Tag → Prop} (h : byGuard ops.toList o st plain skip tagged) (hG : Good B ops.toList η m st a w) :
    (Region.wanted o (yielded ops a.tmps) = true ∧ plain st) ∨ (Region.wanted o (yielded ops a.tmps) = false ∧ ∃ st', skip st' ∧ Good B ops.toList η m st' (a.put o.dst undef) w) ∨
    ∃ st1 tg, tagged st1 tg ∧ Good B ops.toList η m st1 a w ∧ Region.wanted o (yielded ops a.tmps) = tagB st1.gs tg := by
  unfold byGuard at h
  split at h
  · rename_i hg
    exact .inl ⟨by simp only [Region.wanted, hg], h⟩
  · rename_i j w0 hg
    split at h
    case h_1 => exact h.elim
    rename_i d hd
    split at h
    case h_2 => exact h.elim
    rename_i tg x hl
    have out : ∀ (v : Value), a.tmps[d]? = some v → Region.wanted o (yielded ops a.tmps) = (match v with | .bool b => b == w0 | _ => false) := by
      intro v hv
      rw [dstOf_arr] at hd
      simp only [Region.wanted, hg, yielded, hd, Option.bind_some, hv]
      cases v <;> simp
    have skipped : Region.wanted o (yielded ops a.tmps) = false → putS ops.toList st o.dst [] .ud skip → (Region.wanted o (yielded ops a.tmps) = false ∧ ∃ st', skip st' ∧ Good B ops.toList η m st' (a.put o.dst undef) w) := by
      intro hw h
      obtain ⟨st', h, hG', _⟩ := putS_sound hG h (v := undef) (by simp [den])
      exact ⟨hw, st', h, hG'⟩
    have hs := hG.T.sl d tg x hl
    split at h
    · rename_i g
      obtain ⟨st1, h, hG1, ht1, hg1, htag1⟩ := addG_sound hG hd hl h
      have hwant := wanted_eq hG1.T hg hd (by rw [ht1]; exact hl)
      refine .inr (.inr ⟨_, _, h, hG1, hwant.trans ?_⟩)
      simp only [tagB, hg1]
      exact Bool.and_comm _ _
    · rename_i b
      split at h
      · exact .inl ⟨by rw [out _ hs]; rfl, h⟩
      · exact .inl ⟨by rw [out _ hs]; rfl, h⟩
      · exact .inr (.inl (skipped (by rw [out _ hs]; rfl) h))
      · exact .inr (.inl (skipped (by rw [out _ hs]; rfl) h))
      · exact h.elim
    · split at h
      · exact .inr (.inl (skipped (by rw [out _ hs]; rfl) h))
      · exact h.elim
    · exact h.elim

theorem splitG_sound {l : List Oper} {d : Option Nat} {go skip : St → Mem → Prop} : ∀ {f : Nat} {tag : Tag} {st : St}, splitG l d go skip f tag st m → Good B l η m st a w →
    (tagB st.gs tag = true → ∃ st', go st' m ∧ Good B l η m st' a w) ∧ (tagB st.gs tag = false → ∃ st', skip st' m ∧ Good B l η m st' (a.put d undef) w)
  | 0, _, _, h, _ => h.elim
  | f + 1, tag, st, h, hG => by
    simp only [splitG] at h
    split at h
    · rename_i hl
      obtain rfl := lastT_none hl
      exact ⟨fun _ => ⟨st, h, hG⟩, fun h => by cases h⟩
    · rename_i j w0 hl
      split at h
      case h_2 => exact h.elim
      rename_i g tj hg
      obtain ⟨h1, h2⟩ := h
      have step : ∀ (b : Bool) {K : List Slot → Gs → Prop}, g = b → (settle j b st.t fun t => settleG j b st.gs fun gs => chk t gs (markS l j b tj t gs fun t => K t gs)) →
          ∃ t gs, K t gs ∧ Good B l η m ⟨st.sz, t, gs, st.h, st.nx⟩ a w ∧ (∀ tag, tagIn gs tag = true → tagB gs tag = tagB st.gs tag) := by
        intro b K hb hs
        subst hb
        obtain ⟨t, hs, ht⟩ := settle_sound hs
        obtain ⟨gs, hs, hgs⟩ := settleG_sound hs
        obtain ⟨hi, _, hs⟩ := chk_out hs
        obtain ⟨hg1, hg2⟩ := settle_good hG hg ht hgs hi
        obtain ⟨d0, hd0, hl0⟩ := hG.T.gs j g tj hg
        obtain ⟨t2, hs, hg3⟩ := markS_sound hg1 (b := g) (tj := tj) (fun _ d hd htj => by
          subst htj
          rw [hd0] at hd
          cases hd
          rw [ht, hl0]
          rfl) hs
        exact ⟨t2, gs, hs, hg3, hg2⟩
      have fin : ∀ (b : Bool), g = b → w0 = b → (∀ {K : List Slot → Gs → Prop}, K = (fun t gs => match settleTag j b tag with
            | some tag' => (match tagIn gs tag' with
              | true => withT st t gs fun st => splitG l d go skip f tag' st m
              | false => False)
            | none => False) → (settle j b st.t fun t => settleG j b st.gs fun gs => chk t gs (markS l j b tj t gs fun t => K t gs)) →
          (tagB st.gs tag = true → ∃ st', go st' m ∧ Good B l η m st' a w) ∧ (tagB st.gs tag = false → ∃ st', skip st' m ∧ Good B l η m st' (a.put d undef) w)) := by
        intro b hb hw K hK hs
        obtain ⟨t, gs, hk, hG', hsame⟩ := step b hb hs
        subst hK
        split at hk
        case h_2 => exact hk.elim
        rename_i tag' hst
        split at hk
        case h_2 => exact hk.elim
        rename_i hin
        have hj : lookG st.gs j = some (b, tj) := by rw [hg, hb]
        have heq : tagB st.gs tag = tagB gs tag' := by
          rw [settleTag_sound hj (tag := tag), hst]
          exact (hsame tag' hin).symm
        rw [heq]
        obtain ⟨sz, t0, gs0, hp, nx⟩ := st
        exact splitG_sound hk hG'
      have fin2 : ∀ (b : Bool), g = b → w0 ≠ b → (∀ {K : List Slot → Gs → Prop}, K = (fun t gs => withT st t gs fun st => putS l st d [] .ud fun st => skip st m) → (settle j b st.t fun t => settleG j b st.gs fun gs => chk t gs (markS l j b tj t gs fun t => K t gs)) →
          (tagB st.gs tag = true → ∃ st', go st' m ∧ Good B l η m st' a w) ∧ (tagB st.gs tag = false → ∃ st', skip st' m ∧ Good B l η m st' (a.put d undef) w)) := by
        intro b hb hw K hK hs
        obtain ⟨t, gs, hk, hG', hsame⟩ := step b hb hs
        subst hK
        refine ⟨fun ht => absurd ((lastT_mem hl hg ht).symm.trans hb) hw, fun _ => ?_⟩
        obtain ⟨sz, t0, gs0, hp, nx⟩ := st
        have hk : putS l ⟨sz, t, gs, hp, nx⟩ d [] .ud fun st => skip st m := hk
        obtain ⟨st', hk, hG'', _⟩ := putS_sound hG' hk (v := undef) (by simp [den])
        exact ⟨st', hk, hG''⟩
      cases g with
      | true =>
        cases w0 with
        | true => exact fin true rfl rfl rfl (h1 rfl)
        | false => exact fin2 true rfl (by decide) rfl (h1 rfl)
      | false =>
        cases w0 with
        | true => exact fin2 false rfl (by decide) rfl (h2 rfl)
        | false => exact fin false rfl rfl rfl (h2 rfl)

include hT in
theorem runL_sound {CP : CallP} (hCP : CPOkB P B CP) {ops : Array Oper} {KP : SV → St → Mem → Prop} {K : St → Mem → Prop} {Q : Exit → Act → World → Prop}
    (hK : ∀ η st m a w, K st m → Good B ops.toList η m st a w → Q .normal a w)
    (hKP : ∀ x η st m a w, KP x st m → Good B ops.toList η m st a w → Q (.panic [{ v := den η x, recovered := false }]) a w) :
    ∀ {l : List Oper} {n : Nat} {η : Names} {m : Mem} {st : St} {a : Act} {w : World}, runL T CP ops.toList KP K l n st m → Good B ops.toList η m st a w → wpList P ops Q l a w
  | [], n, η, m, st, a, w, h, hG => hK _ _ _ _ _ h hG
  | o :: rest, n, η, m, st, a, w, h, hG => by
    simp only [runL] at h
    rcases byGuard_sound h hG with ⟨hw, h⟩ | ⟨hw, st', h, hG'⟩ | ⟨st1, tag, h, hG1, hwant⟩
    · refine wpList_step fun K' hK' => ?_
      rw [hw, if_pos rfl]
      have put : ∀ {d : Option Nat} {x : SV} {η : Names} {st : St} {m : Mem} {w : World} {a : Act}, Good B ops.toList η m st a w → (∀ a w, wpList P ops Q rest a w → K' a w) → (putS ops.toList st d [] x fun st => runL T CP ops.toList KP K rest (n + 1) st m) → K' (a.put d (den η x)) w := by
        intro d x η st m w a hG hK' h
        obtain ⟨st', h, hG', _⟩ := putS_sound hG h (v := den η x) (by simp [tagB])
        exact hK' _ _ (runL_sound hCP hK hKP h hG')
      split at h
      · rename_i c x y ho
        obtain ⟨v, h, hv⟩ := pickV_sound (P := P) hG.T h ho
        show o.upon P a K' Q _
        rw [hv w rfl]
        exact put hG hK' h
      · split at h
        · rename_i hq
          obtain ⟨x, h, hx⟩ := quietV_sound hT hG.T hq h
          show o.upon P a K' Q _
          rw [hx w hG.H.hq rfl]
          exact put hG hK' h
        · exact loudV_sound hT hG hCP h (fun x η' st' m' w' hk hg => put hg hK' hk) (fun x η' st' m' w' hk hg => hKP _ _ _ _ _ _ hk hg)
    · refine wpList_step fun K' hK' => ?_
      rw [hw, if_neg (by decide)]
      exact hK' _ _ (runL_sound hCP hK hKP h hG')
    · have fin : ∀ {x : SV}, (tagB st1.gs tag = true → (execOp a.eval o).run P w = .ok (.value (den η x)) w) → (putS ops.toList st1 o.dst tag x fun st => runL T CP ops.toList KP K rest (n + 1) st m) → wpList P ops Q (o :: rest) a w := by
        intro x hx h
        refine wpList_step fun K' hK' => ?_
        obtain ⟨st', h, hG', _⟩ := putS_sound hG1 h rfl
        rw [hwant]
        cases ht : tagB st1.gs tag with
        | true =>
          rw [if_pos rfl]
          show o.upon P a K' Q _
          rw [hx ht]
          rw [ht, if_pos rfl] at hG'
          exact hK' _ _ (runL_sound hCP hK hKP h hG')
        | false =>
          rw [if_neg (by decide)]
          rw [ht, if_neg (by decide)] at hG'
          exact hK' _ _ (runL_sound hCP hK hKP h hG')
      split at h
      · rename_i c x y ho
        obtain ⟨v, h, hv⟩ := pickV_sound (P := P) hG1.T h ho
        exact fin (hv w) h
      · split at h
        · rename_i hq
          obtain ⟨x, h, hx⟩ := quietV_sound hT hG1.T hq h
          exact fin (hx w hG1.H.hq) h
        · obtain ⟨hgo, hskip⟩ := splitG_sound h hG1
          refine wpList_step fun K' hK' => ?_
          rw [hwant]
          cases ht : tagB st1.gs tag with
          | true =>
            rw [if_pos rfl]
            obtain ⟨st2, h, hG2⟩ := hgo ht
            refine loudV_sound hT hG2 hCP h (fun x η' st' m' w' hk hg => ?_) (fun x η' st' m' w' hk hg => hKP _ _ _ _ _ _ hk hg)
            obtain ⟨st', h, hG', _⟩ := putS_sound hg hk (v := den η' x) (by simp [tagB])
            exact hK' _ _ (runL_sound hCP hK hKP h hG')
          | false =>
            rw [if_neg (by decide)]
            obtain ⟨st2, h, hG2⟩ := hskip ht
            exact hK' _ _ (runL_sound hCP hK hKP h hG2)
end
end Go.Proofs.Ytjpjiniclibgkaa.Sx

namespace Go.Proofs.Ytjpjiniclibgkaa.Sx

/-- How the model leaves code. -/
def Ex.out (η : Names) : Ex → Exit
  | .normal => .normal
  | .exit id => .exit id
  | .ret => .ret
  | .panic x => .panic [{ v := den η x, recovered := false }]

theorem lookG_nil {η : Names} {st : St} {a : Act} (h : HoldT [] η st a) (j : Nat) : lookG st.gs j = none := by
  cases hg : lookG st.gs j with
  | none => rfl
  | some p =>
    obtain ⟨d, hd, _⟩ := h.gs j p.1 p.2 hg
    cases hd

section
variable {P : Program} {T : Tbl} {B : Base} {η : Names} {m : Mem} {st : St} {a : Act} {w : World}

theorem Good.any (h : Good B [] η m st a w) (ops : List Oper) : Good B ops η m st a w :=
  ⟨h.H, ⟨h.T.sz, h.T.df, h.T.sl, fun j g tg hl => by rw [lookG_nil h.T j] at hl; cases hl⟩⟩
theorem Good.bare {ops : List Oper} (h : Good B ops η m st a w) : Good B [] η m ⟨st.sz, [], [], st.h, st.nx⟩ a w :=
  ⟨h.H, ⟨h.T.sz, h.T.df, fun k tag x hl => (by cases hl), fun j g tg hl => (by cases hl)⟩⟩

theorem memN_sound {k : Nat} : ∀ {l : List Nat}, memN k l = true → k ∈ l
  | [], h => by cases h
  | n :: r, h => by
    simp only [memN] at h
    split at h
    · rename_i hb
      obtain rfl := beq_eq hb
      exact .head _
    · exact .tail _ (memN_sound h)

theorem clean_sound {lv : List Nat} {K : List Slot → Prop} : ∀ {t : List Slot} {seen : List Nat}, clean lv seen t K →
    ∃ t', K t' ∧ ∀ k tag x, look t' k = some (tag, x) → tag = [] ∧ k ∉ seen ∧ look t k = some ([], x)
  | [], _, h => ⟨[], h, fun _ _ _ h => by cases h⟩
  | ⟨n, tag, x⟩ :: r, seen, h => by
    simp only [clean] at h
    cases hm0 : memN n seen with
    | true =>
      rw [hm0] at h
      have hm := memN_sound hm0
      obtain ⟨t', hk, hl⟩ := clean_sound h
      refine ⟨t', hk, fun k tag x h => ?_⟩
      obtain ⟨h1, h2, h3⟩ := hl k tag x h
      refine ⟨h1, h2, ?_⟩
      simp only [look]
      have : n ≠ k := fun e => h2 (by subst e; exact hm)
      rw [beq_ne this]
      exact h3
    | false =>
      rw [hm0] at h
      simp only at h
      have drop : clean lv (n :: seen) r K → ∃ t', K t' ∧ ∀ k tag' y, look t' k = some (tag', y) → tag' = [] ∧ k ∉ seen ∧ look (⟨n, tag, x⟩ :: r) k = some ([], y) := by
        intro h
        obtain ⟨t', hk, hl⟩ := clean_sound h
        refine ⟨t', hk, fun k tag x h => ?_⟩
        obtain ⟨h1, h2, h3⟩ := hl k tag x h
        simp only [List.mem_cons, not_or] at h2
        refine ⟨h1, h2.2, ?_⟩
        simp only [look]
        rw [beq_ne (Ne.symm h2.1)]
        exact h3
      split at h
      · obtain ⟨t', hk, hl⟩ := clean_sound h
        refine ⟨_, hk, fun k tag y h => ?_⟩
        simp only [look] at h
        split at h
        · rename_i hb
          obtain rfl := beq_eq hb
          cases h
          refine ⟨rfl, ?_, by simp [look, Nat.beq_refl]⟩
          intro hs
          have : ∀ {l : List Nat}, n ∈ l → memN n l = true := by
            intro l hl
            induction l with
            | nil => cases hl
            | cons z r ih =>
              simp only [memN]
              cases hz : Nat.beq z n with
              | true => rfl
              | false =>
                rcases List.mem_cons.1 hl with rfl | hl
                · rw [Nat.beq_refl] at hz; cases hz
                · exact ih hl
          rw [this hs] at hm0
          cases hm0
        · rename_i hb
          obtain ⟨h1, h2, h3⟩ := hl k tag y h
          simp only [List.mem_cons, not_or] at h2
          refine ⟨h1, h2.2, ?_⟩
          simp only [look]
          rw [beq_ne (Ne.symm h2.1)]
          exact h3
      · exact drop h

/-- What is to be shown of loops and of regions in no order. -/
def LPOk (P : Program) (B : Base) (LP : Code → St → Mem → (Ex → St → Mem → Prop) → Prop) : Prop := ∀ (c : Code) (st : St) (m : Mem) (K : Ex → St → Mem → Prop), LP c st m K →
  ∀ (η : Names) (a : Act) (w : World) (Q : Exit → Act → World → Prop), Good B [] η m st a w → (∀ e η st m a w, K e st m → Good B [] η m st a w → Q (e.out η) a w) → (Code.loop c).wp P Q a w
def DPOk (P : Program) (B : Base) (DP : List Oper → St → Mem → (Ex → St → Mem → Prop) → Prop) : Prop := ∀ (id : Nat) (ops : Array Oper) (st : St) (m : Mem) (K : Ex → St → Mem → Prop), DP ops.toList st m K →
  ∀ (η : Names) (a : Act) (w : World) (Q : Exit → Act → World → Prop), Good B [] η m st a w → (∀ e η st m a w, K e st m → Good B [] η m st a w → Q (e.out η) a w) → (Code.region id ops true).wp P Q a w

theorem exec_sound (hT : TOk P T) {CP : CallP} (hCP : CPOkB P B CP) {LP : Code → St → Mem → (Ex → St → Mem → Prop) → Prop} (hLP : LPOk P B LP) {DP : List Oper → St → Mem → (Ex → St → Mem → Prop) → Prop} (hDP : DPOk P B DP) {lv : List Nat} :
    ∀ {c : Code} {K : Ex → St → Mem → Prop} {st : St} {m : Mem} {η : Names} {a : Act} {w : World} {Q : Exit → Act → World → Prop}, exec T CP LP DP lv c K st m → Good B [] η m st a w →
      (∀ e η st m a w, K e st m → Good B [] η m st a w → Q (e.out η) a w) → c.wp P Q a w := by
  intro c
  induction c with
  | skip => intro K st m η a w Q h hG hK; exact wp_skip (hK _ _ _ _ _ _ h hG)
  | label l => intro K st m η a w Q h hG hK; exact wp_label (hK _ _ _ _ _ _ h hG)
  | exit id => intro K st m η a w Q h hG hK; exact wp_exit (hK _ _ _ _ _ _ h hG)
  | ret => intro K st m η a w Q h hG hK; exact wp_ret (hK _ _ _ _ _ _ h hG)
  | seq x y ihx ihy =>
    intro K st m η a w Q h hG hK
    simp only [exec] at h
    refine wp_seq (ihx h hG fun e η st m a w h hG => ?_)
    cases e with
    | normal => exact ihy h hG hK
    | exit id => exact hK _ _ _ _ _ _ h hG
    | ret => exact hK _ _ _ _ _ _ h hG
    | panic x => exact hK _ _ _ _ _ _ h hG
  | block id x ih =>
    intro K st m η a w Q h hG hK
    simp only [exec] at h
    refine wp_block (ih h hG fun e η st m a w h hG => ?_)
    cases e with
    | normal => exact hK _ _ _ _ _ _ h hG
    | exit i =>
      simp only at h
      simp only [Ex.out, Exit.inBlock]
      split at h
      · rename_i hb
        rw [if_pos (beq_eq hb)]
        exact hK _ _ _ _ _ _ h hG
      · rename_i hb
        rw [if_neg (fun e => by subst e; rw [Nat.beq_refl] at hb; cases hb)]
        exact hK _ _ _ _ _ _ h hG
    | ret => exact hK _ _ _ _ _ _ h hG
    | panic x => exact hK _ _ _ _ _ _ h hG
  | cond c x y ihx ihy =>
    intro K st m η a w Q h hG hK
    simp only [exec] at h
    obtain ⟨v, h, hv⟩ := argAt_sound hG.T h
    have hv := hv rfl
    split at h
    case h_2 => exact h.elim
    exact wp_cond_split hv (fun hb => ihx (h.1 hb) hG hK) (fun hb => ihy (h.2 hb) hG hK)
  | region id ops draw =>
    intro K st m η a w Q h hG hK
    simp only [exec] at h
    split at h
    · refine wp_region_list (runL_sound hT hCP (fun η st m a w h hG => ?_) (fun x η st m a w h hG => ?_) h (hG.any _))
      · obtain ⟨t, h, ht⟩ := clean_sound h
        obtain ⟨sz, t0, gs, hp, nx⟩ := st
        refine hK _ η _ _ _ _ h ⟨hG.H, ⟨hG.T.sz, hG.T.df, fun k tag x hl => ?_, fun j g tg hl => by cases hl⟩⟩
        obtain ⟨rfl, _, hl'⟩ := ht k tag x hl
        exact hG.T.sl k [] x hl'
      · obtain ⟨sz, t0, gs, hp, nx⟩ := st
        exact hK _ η _ _ _ _ h hG.bare
    · exact hDP _ _ _ _ _ h _ _ _ _ hG hK
  | loop c ih =>
    intro K st m η a w Q h hG hK
    exact hLP _ _ _ _ h _ _ _ _ hG hK
  | _ => intro K st m η a w Q h hG hK; exact h.elim
end
end Go.Proofs.Ytjpjiniclibgkaa.Sx

namespace Go.Proofs.Ytjpjiniclibgkaa.Sx

/-- Where a name of the pattern lies: at a name of the state, or at a slice without capacity. -/
inductive Src where
  | nm (n : Nat)
  | nil (A : Option Addr)
abbrev Ren := List (Nat × Src)
def find : Ren → Nat → Option Src
  | [], _ => none
  | (n, s) :: r, k => match Nat.beq n k with
    | true => some s
    | false => find r k
def tie (σ : Ren) (n b : Nat) (K : Ren → Prop) : Prop := match find σ n with
  | some (.nm c) => match Nat.beq c b with
    | true => K σ
    | false => False
  | some (.nil _) => False
  | none => K ((n, .nm b) :: σ)
def tieNil (σ : Ren) (n : Nat) (A : Option Addr) (K : Ren → Prop) : Prop := match find σ n with
  | none => K ((n, .nil A) :: σ)
  | _ => False

mutual
/-- The pattern, the value. -/
def mt : SV → SV → Ren → (Ren → Prop) → Prop
  | .b x, .b y, σ, K => (y = x) ∧ K σ
  | .i k x, .i k' y, σ, K => match sameKind k k' with
    | true => (y = x) ∧ K σ
    | false => False
  | .s x, .s y, σ, K => (y = x) ∧ K σ
  | .p n o, .p n' o', σ, K => (o' = o) ∧ tie σ n n' K
  | .pj n o j, .pj n' o' j', σ, K => (o' = o ∧ j' = j) ∧ tie σ n n' K
  | .el A o, .el A' o', σ, K => (A' = A ∧ o' = o) ∧ K σ
  | .np, .np, σ, K => K σ
  | .rw n l, .rw n' l', σ, K => (l' = l) ∧ tie σ n n' K
  | .rw n l, .sl A l' c', σ, K => (l = 0 ∧ l' = 0 ∧ c' = 0) ∧ tieNil σ n A K
  | .sl A l c, .sl A' l' c', σ, K => (A' = A ∧ l' = l ∧ c' = c) ∧ K σ
  | .g cs, .g cs', σ, K => mts cs cs' σ K
  | .gi n k f, .gi n' k' f', σ, K => match sameKind k k' with
    | true => (n' = n ∧ ∀ j, j < n → f' j = f j) ∧ K σ
    | false => False
  | .t cs, .t cs', σ, K => mtt cs cs' σ K
  | .e ty x, .e ty' x', σ, K => match Nat.beq ty ty' with
    | true => mt x x' σ K
    | false => False
  | .ne, .ne, σ, K => K σ
  | .fn f a c, .fn f' a' c', σ, K => match Nat.beq f f' with
    | true => mtt a a' σ fun σ => mtt c c' σ K
    | false => False
  | .v x, .v y, σ, K => (y = x) ∧ K σ
  | _, _, _, _ => False
def mts : List SV → List SV → Ren → (Ren → Prop) → Prop
  | [], [], σ, K => K σ
  | x :: r, y :: r', σ, K => mt x y σ fun σ => mts r r' σ K
  | _, _, _, _ => False
def mtt : List SV → List SV → Ren → (Ren → Prop) → Prop
  | [], [], σ, K => K σ
  | x :: r, y :: r', σ, K => mt x y σ fun σ => mtt r r' σ K
  | _, _, _, _ => False
end
def mtC : Ck → Ck → Ren → (Ren → Prop) → Prop
  | .st e cs, .st e' cs', σ, K => match Nat.beq e e' with
    | true => mts cs cs' σ K
    | false => False
  | .row e z n xs, .row e' z' n' xs', σ, K => match Nat.beq e e' && Nat.beq z z' with
    | true => (n' = n ∧ xs' = xs) ∧ K σ
    | false => False
  | _, _, _, _ => False

def mtT : List Slot → List Slot → Ren → (Ren → Prop) → Prop
  | [], _, σ, K => K σ
  | ⟨k, tag, x⟩ :: r, t, σ, K => match tag, look t k with
    | [], some ([], y) => mt x y σ fun σ => mtT r t σ K
    | _, _ => False
def memH : Heap → Nat → Bool
  | [], _ => false
  | (n, _) :: r, k => match Nat.beq n k with
    | true => true
    | false => memH r k
/-- The blocks of a pattern, each behind a name that is tied by then. -/
def mtH (nx : Nat) : List Nat → Heap → Heap → Ren → (Ren → Prop) → Prop
  | _, [], _, σ, K => K σ
  | used, (n, c) :: r, h, σ, K => match Nat.blt n nx, find σ n with
    | true, some (.nm b) => match lookH h b with
      | some c' => match memN b used with
        | false => mtC c c' σ fun σ => mtH nx (b :: used) r h σ K
        | true => False
      | none => False
    | true, some (.nil _) => match c with
      | .row _ _ k xs => (k = 0 ∧ xs = []) ∧ mtH nx used r h σ K
      | _ => False
    | _, _ => False

def ηOf (σ : Ren) (η : Names) : Names := fun n => match find σ n with
  | some (.nm b) => η b
  | some (.nil A) => ⟨A, 0, none⟩
  | none => η n
def Ext (σ σ' : Ren) : Prop := ∀ n s, find σ n = some s → find σ' n = some s
theorem Ext.refl (σ : Ren) : Ext σ σ := fun _ _ h => h
theorem Ext.trans {a b c : Ren} (h : Ext a b) (h' : Ext b c) : Ext a c := fun n s hs => h' n s (h n s hs)
theorem ext_cons {σ : Ren} {n : Nat} {s : Src} (h : find σ n = none) : Ext σ ((n, s) :: σ) := by
  intro k s' hk
  simp only [find]
  have : n ≠ k := fun e => by subst e; rw [h] at hk; cases hk
  rw [beq_ne this]
  exact hk

theorem tie_sound {σ : Ren} {n b : Nat} {K : Ren → Prop} (h : tie σ n b K) : ∃ σ', K σ' ∧ Ext σ σ' ∧ find σ' n = some (.nm b) := by
  unfold tie at h
  split at h
  · rename_i c hc
    split at h
    · rename_i hb
      obtain rfl := beq_eq hb
      exact ⟨σ, h, .refl σ, hc⟩
    · exact h.elim
  · exact h.elim
  · rename_i hn
    exact ⟨_, h, ext_cons hn, by simp [find, Nat.beq_refl]⟩
theorem tieNil_sound {σ : Ren} {n : Nat} {A : Option Addr} {K : Ren → Prop} (h : tieNil σ n A K) : ∃ σ', K σ' ∧ Ext σ σ' ∧ find σ' n = some (.nil A) := by
  unfold tieNil at h
  split at h
  · rename_i hn
    exact ⟨_, h, ext_cons hn, by simp [find, Nat.beq_refl]⟩
  · exact h.elim
theorem ηOf_nm {σ : Ren} {n b : Nat} (h : find σ n = some (.nm b)) (η : Names) : ηOf σ η n = η b := by simp [ηOf, h]
theorem ηOf_nil {σ : Ren} {n : Nat} {A : Option Addr} (h : find σ n = some (.nil A)) (η : Names) : ηOf σ η n = ⟨A, 0, none⟩ := by simp [ηOf, h]

/-- What a match gives. -/
def MtOk (x y : SV) (σ : Ren) (K : Ren → Prop) : Prop := ∃ σ', K σ' ∧ Ext σ σ' ∧ ∀ σ'', Ext σ' σ'' → ∀ η, den (ηOf σ'' η) x = den η y ∧ pc x (den (ηOf σ'' η) x) = pc y (den η y)
theorem MtOk.of {x y : SV} {σ : Ren} {K : Ren → Prop} (h : K σ) (hd : ∀ η η', den η' x = den η y ∧ pc x (den η' x) = pc y (den η y)) : MtOk x y σ K :=
  ⟨σ, h, .refl σ, fun _ _ η => hd η _⟩

mutual
theorem mt_sound {K : Ren → Prop} : ∀ {x y : SV} {σ : Ren}, mt x y σ K → MtOk x y σ K
  | .b x, y, σ, h => by
    cases y <;> simp only [mt] at h
    obtain ⟨rfl, h⟩ := h
    exact .of h fun _ _ => ⟨rfl, rfl⟩
  | .i k x, y, σ, h => by
    cases y <;> simp only [mt] at h
    split at h
    · rename_i hk
      obtain rfl := sameKind_eq hk
      obtain ⟨rfl, h⟩ := h
      exact .of h fun _ _ => ⟨rfl, rfl⟩
    · exact h.elim
  | .s x, y, σ, h => by
    cases y <;> simp only [mt] at h
    obtain ⟨rfl, h⟩ := h
    exact .of h fun _ _ => ⟨rfl, rfl⟩
  | .p n o, y, σ, h => by
    cases y <;> simp only [mt] at h
    obtain ⟨rfl, h⟩ := h
    obtain ⟨σ', h, he, hf⟩ := tie_sound h
    exact ⟨σ', h, he, fun σ'' h2 η => by simp [den, pc, ηOf_nm (h2 _ _ hf)]⟩
  | .pj n o j, y, σ, h => by
    cases y <;> simp only [mt] at h
    obtain ⟨⟨rfl, rfl⟩, h⟩ := h
    obtain ⟨σ', h, he, hf⟩ := tie_sound h
    exact ⟨σ', h, he, fun σ'' h2 η => by simp [den, pc, ηOf_nm (h2 _ _ hf)]⟩
  | .el A o, y, σ, h => by
    cases y <;> simp only [mt] at h
    obtain ⟨⟨rfl, rfl⟩, h⟩ := h
    exact .of h fun _ _ => ⟨rfl, rfl⟩
  | .np, y, σ, h => by
    cases y <;> simp only [mt] at h
    exact .of h fun _ _ => ⟨rfl, rfl⟩
  | .rw n l, y, σ, h => by
    cases y <;> simp only [mt] at h
    · obtain ⟨rfl, h⟩ := h
      obtain ⟨σ', h, he, hf⟩ := tie_sound h
      exact ⟨σ', h, he, fun σ'' h2 η => by simp [den, pc, ηOf_nm (h2 _ _ hf)]⟩
    · obtain ⟨⟨rfl, rfl, rfl⟩, h⟩ := h
      obtain ⟨σ', h, he, hf⟩ := tieNil_sound h
      exact ⟨σ', h, he, fun σ'' h2 η => by simp [den, pc, ηOf_nil (h2 _ _ hf)]⟩
  | .sl A l c, y, σ, h => by
    cases y <;> simp only [mt] at h
    obtain ⟨⟨rfl, rfl, rfl⟩, h⟩ := h
    exact .of h fun _ _ => ⟨rfl, rfl⟩
  | .g cs, y, σ, h => by
    cases y <;> simp only [mt] at h
    obtain ⟨σ', h, he, hd⟩ := mts_sound h
    exact ⟨σ', h, he, fun σ'' h2 η => by simp [den, pc, hd σ'' h2 η]⟩
  | .gi n k f, y, σ, h => by
    cases y <;> simp only [mt] at h
    rename_i n' k' f'
    split at h
    · rename_i hk
      obtain rfl := sameKind_eq hk
      obtain ⟨⟨rfl, hf⟩, h⟩ := h
      refine .of h fun _ _ => ?_
      have : ints n' k f = ints n' k f' := List.map_congr_left (fun j hj => by rw [hf j (List.mem_range.1 hj)])
      exact ⟨by simp only [den, this], by simp only [pc, this]⟩
    · exact h.elim
  | .t cs, y, σ, h => by
    cases y <;> simp only [mt] at h
    obtain ⟨σ', h, he, hd⟩ := mtt_sound h
    exact ⟨σ', h, he, fun σ'' h2 η => by simp [den, pc, hd σ'' h2 η]⟩
  | .e ty x, y, σ, h => by
    cases y <;> simp only [mt] at h
    split at h
    · rename_i hb
      obtain rfl := beq_eq hb
      obtain ⟨σ', h, he, hd⟩ := mt_sound h
      exact ⟨σ', h, he, fun σ'' h2 η => by simp [den, pc, (hd σ'' h2 η).1]⟩
    · exact h.elim
  | .ne, y, σ, h => by
    cases y <;> simp only [mt] at h
    exact .of h fun _ _ => ⟨rfl, rfl⟩
  | .fn f a c, y, σ, h => by
    cases y <;> simp only [mt] at h
    split at h
    · rename_i hb
      obtain rfl := beq_eq hb
      obtain ⟨σ', h, he, hd⟩ := mtt_sound h
      obtain ⟨σ2, h, he2, hd2⟩ := mtt_sound h
      exact ⟨σ2, h, he.trans he2, fun σ'' h2 η => by simp [den, pc, hd σ'' (he2.trans h2) η, hd2 σ'' h2 η]⟩
    · exact h.elim
  | .v x, y, σ, h => by
    cases y <;> simp only [mt] at h
    obtain ⟨rfl, h⟩ := h
    exact .of h fun _ _ => ⟨rfl, rfl⟩
  | .kb x, y, σ, h => by cases y <;> simp only [mt] at h
  | .ud, y, σ, h => by cases y <;> simp only [mt] at h
theorem mts_sound {K : Ren → Prop} : ∀ {x y : List SV} {σ : Ren}, mts x y σ K → ∃ σ', K σ' ∧ Ext σ σ' ∧ ∀ σ'', Ext σ' σ'' → ∀ η, dens (ηOf σ'' η) x = dens η y
  | [], [], σ, h => ⟨σ, h, .refl σ, fun _ _ _ => rfl⟩
  | [], _ :: _, _, h => h.elim
  | _ :: _, [], _, h => h.elim
  | x :: r, y :: r', σ, h => by
    simp only [mts] at h
    obtain ⟨σ1, h, he1, hd1⟩ := mt_sound h
    obtain ⟨σ2, h, he2, hd2⟩ := mts_sound h
    exact ⟨σ2, h, he1.trans he2, fun σ'' h2 η => by rw [dens, dens, (hd1 σ'' (he2.trans h2) η).2, hd2 σ'' h2 η]⟩
theorem mtt_sound {K : Ren → Prop} : ∀ {x y : List SV} {σ : Ren}, mtt x y σ K → ∃ σ', K σ' ∧ Ext σ σ' ∧ ∀ σ'', Ext σ' σ'' → ∀ η, dent (ηOf σ'' η) x = dent η y
  | [], [], σ, h => ⟨σ, h, .refl σ, fun _ _ _ => rfl⟩
  | [], _ :: _, _, h => h.elim
  | _ :: _, [], _, h => h.elim
  | x :: r, y :: r', σ, h => by
    simp only [mtt] at h
    obtain ⟨σ1, h, he1, hd1⟩ := mt_sound h
    obtain ⟨σ2, h, he2, hd2⟩ := mtt_sound h
    exact ⟨σ2, h, he1.trans he2, fun σ'' h2 η => by rw [dent, dent, (hd1 σ'' (he2.trans h2) η).1, hd2 σ'' h2 η]⟩
end
end Go.Proofs.Ytjpjiniclibgkaa.Sx

namespace Go.Proofs.Ytjpjiniclibgkaa.Sx

theorem mtC_sound {K : Ren → Prop} {c c' : Ck} {σ : Ren} (h : mtC c c' σ K) : ∃ σ', K σ' ∧ Ext σ σ' ∧
    ∀ σ'', Ext σ' σ'' → ∀ η w n b, ηOf σ'' η n = η b → CkAt η w b c' → CkAt (ηOf σ'' η) w n c := by
  cases c with
  | st e cs =>
    cases c' with
    | st e' cs' =>
      simp only [mtC] at h
      split at h
      · rename_i hb
        obtain rfl := beq_eq hb
        obtain ⟨σ', h, he, hd⟩ := mts_sound h
        refine ⟨σ', h, he, fun σ'' h2 η w n b hn hc => ?_⟩
        simp only [CkAt] at hc ⊢
        rw [hn, hd σ'' h2 η]
        exact hc
      · exact h.elim
    | row => exact h.elim
  | row e z k xs =>
    cases c' with
    | st => exact h.elim
    | row e' z' k' xs' =>
      simp only [mtC] at h
      split at h
      · rename_i hb
        simp only [Bool.and_eq_true] at hb
        obtain rfl := beq_eq hb.1
        obtain rfl := beq_eq hb.2
        obtain ⟨⟨rfl, rfl⟩, h⟩ := h
        refine ⟨σ, h, .refl σ, fun σ'' h2 η w n b hn hc => ?_⟩
        simp only [CkAt] at hc ⊢
        rw [hn]
        exact hc
      · exact h.elim

theorem mtT_sound {K : Ren → Prop} {t : List Slot} : ∀ {t2 : List Slot} {σ : Ren}, mtT t2 t σ K → ∃ σ', K σ' ∧ Ext σ σ' ∧
    ∀ σ'', Ext σ' σ'' → ∀ η k tag x, look t2 k = some (tag, x) → tag = [] ∧ ∃ y, look t k = some ([], y) ∧ den (ηOf σ'' η) x = den η y
  | [], σ, h => ⟨σ, h, .refl σ, fun _ _ _ _ _ _ h => by cases h⟩
  | ⟨k, tag, x⟩ :: r, σ, h => by
    simp only [mtT] at h
    split at h
    · rename_i y hl
      obtain ⟨σ1, h, he1, hd1⟩ := mt_sound h
      obtain ⟨σ2, h, he2, hd2⟩ := mtT_sound h
      refine ⟨σ2, h, he1.trans he2, fun σ'' h2 η k' tag' x' hl' => ?_⟩
      simp only [look] at hl'
      split at hl'
      · rename_i hb
        obtain rfl := beq_eq hb
        cases hl'
        exact ⟨rfl, y, hl, (hd1 σ'' (he2.trans h2) η).1⟩
      · exact hd2 σ'' h2 η k' tag' x' hl'
    · exact h.elim

theorem memN_mem {k : Nat} : ∀ {l : List Nat}, k ∈ l → memN k l = true
  | z :: r, hl => by
    simp only [memN]
    cases hz : Nat.beq z k with
    | true => rfl
    | false =>
      rcases List.mem_cons.1 hl with rfl | hl
      · rw [Nat.beq_refl] at hz; cases hz
      · exact memN_mem hl

/-- What a pattern's heap tells of a state's. -/
structure HpOk (nx : Nat) (used : List Nat) (h2 h0 : Heap) (σ : Ren) : Prop where
  ck : ∀ n c, lookH h2 n = some c → n < nx ∧ ((∃ b c', find σ n = some (.nm b) ∧ lookH h0 b = some c' ∧ ∀ η w, ηOf σ η n = η b → CkAt η w b c' → CkAt (ηOf σ η) w n c) ∨
      (∃ A e z, find σ n = some (.nil A) ∧ c = .row e z 0 []))
  free : ∀ n c b, lookH h2 n = some c → find σ n = some (.nm b) → b ∉ used
  inj : ∀ n c n' c' b, lookH h2 n = some c → lookH h2 n' = some c' → find σ n = some (.nm b) → find σ n' = some (.nm b) → n = n'

theorem mtH_sound {K : Ren → Prop} {nx : Nat} {h0 : Heap} : ∀ {h2 : Heap} {used : List Nat} {σ : Ren}, mtH nx used h2 h0 σ K → ∃ σ', K σ' ∧ Ext σ σ' ∧
    ∀ σ'', Ext σ' σ'' → HpOk nx used h2 h0 σ''
  | [], _, σ, h => ⟨σ, h, .refl σ, fun _ _ => ⟨fun _ _ h => (by cases h), fun _ _ _ h => (by cases h), fun _ _ _ _ _ h => (by cases h)⟩⟩
  | (n, c) :: r, used, σ, h => by
    simp only [mtH] at h
    split at h
    · rename_i b hlt hf
      split at h
      · rename_i c' hl
        cases hu : memN b used with
        | true => rw [hu] at h; exact h.elim
        | false =>
        rw [hu] at h
        obtain ⟨σ1, h, he1, hd1⟩ := mtC_sound h
        obtain ⟨σ2, h, he2, hd2⟩ := mtH_sound h
        refine ⟨σ2, h, he1.trans he2, fun σ'' h2 => ?_⟩
        have ih := hd2 σ'' h2
        have hfn := (he1.trans (he2.trans h2)) _ _ hf
        have free : ∀ n' c'' b', lookH r n' = some c'' → find σ'' n' = some (.nm b') → b' ≠ b ∧ b' ∉ used := fun n' c'' b' hl' hf' => by
          have := ih.free n' c'' b' hl' hf'
          simpa only [List.mem_cons, not_or] using this
        have cases' : ∀ n' c'', lookH ((n, c) :: r) n' = some c'' → (n' = n ∧ c'' = c) ∨ (n' ≠ n ∧ lookH r n' = some c'') := by
          intro n' c'' hl'
          simp only [lookH] at hl'
          split at hl'
          · rename_i hb
            cases hl'
            exact .inl ⟨(beq_eq hb).symm, rfl⟩
          · rename_i hb
            exact .inr ⟨fun e => (by subst e; rw [Nat.beq_refl] at hb; cases hb), hl'⟩
        refine ⟨fun n' c'' hl' => ?_, fun n' c'' b' hl' hf' => ?_, fun n1 c1 n2 c2 b' h1 h2' hf1 hf2 => ?_⟩
        · rcases cases' n' c'' hl' with ⟨rfl, rfl⟩ | ⟨_, hl'⟩
          · exact ⟨blt_lt hlt, .inl ⟨b, c', hfn, hl, fun η w => hd1 σ'' (he2.trans h2) η w n' b⟩⟩
          · exact ih.ck n' c'' hl'
        · rcases cases' n' c'' hl' with ⟨rfl, rfl⟩ | ⟨_, hl'⟩
          · rw [hfn] at hf'
            cases hf'
            intro hm
            rw [memN_mem hm] at hu
            cases hu
          · exact (free n' c'' b' hl' hf').2
        · rcases cases' n1 c1 h1 with ⟨rfl, rfl⟩ | ⟨hn1, g1⟩ <;> rcases cases' n2 c2 h2' with ⟨rfl, rfl⟩ | ⟨hn2, g2⟩
          · rfl
          · rw [hfn] at hf1
            cases hf1
            exact absurd rfl (free _ _ _ g2 hf2).1
          · rw [hfn] at hf2
            cases hf2
            exact absurd rfl (free _ _ _ g1 hf1).1
          · exact ih.inj n1 c1 n2 c2 b' g1 g2 hf1 hf2
      · exact h.elim
    · rename_i A hlt hf
      split at h
      · rename_i e z k xs
        obtain ⟨⟨rfl, rfl⟩, h⟩ := h
        obtain ⟨σ2, h, he2, hd2⟩ := mtH_sound h
        refine ⟨σ2, h, he2, fun σ'' h2 => ?_⟩
        have ih := hd2 σ'' h2
        have hfn := (he2.trans h2) _ _ hf
        have cases' : ∀ n' c'', lookH ((n, Ck.row e z 0 []) :: r) n' = some c'' → (n' = n ∧ c'' = .row e z 0 []) ∨ (lookH r n' = some c'') := by
          intro n' c'' hl'
          simp only [lookH] at hl'
          split at hl'
          · rename_i hb
            cases hl'
            exact .inl ⟨(beq_eq hb).symm, rfl⟩
          · exact .inr hl'
        refine ⟨fun n' c'' hl' => ?_, fun n' c'' b' hl' hf' => ?_, fun n1 c1 n2 c2 b' h1 h2' hf1 hf2 => ?_⟩
        · rcases cases' n' c'' hl' with ⟨rfl, rfl⟩ | hl'
          · exact ⟨blt_lt hlt, .inr ⟨A, e, z, hfn, rfl⟩⟩
          · exact ih.ck n' c'' hl'
        · rcases cases' n' c'' hl' with ⟨rfl, rfl⟩ | hl'
          · rw [hfn] at hf'; cases hf'
          · exact ih.free n' c'' b' hl' hf'
        · rcases cases' n1 c1 h1 with ⟨rfl, rfl⟩ | h1
          · rw [hfn] at hf1; cases hf1
          · rcases cases' n2 c2 h2' with ⟨rfl, rfl⟩ | h2'
            · rw [hfn] at hf2; cases hf2
            · exact ih.inj n1 c1 n2 c2 b' h1 h2' hf1 hf2
      · exact h.elim
    · exact h.elim

/-- The first names, each at its own place. -/
def idR : Nat → Ren
  | 0 => []
  | n + 1 => (n, .nm n) :: idR n
theorem find_idR : ∀ {k n : Nat}, n < k → find (idR k) n = some (.nm n)
  | k + 1, n, h => by
    simp only [idR, find]
    by_cases hn : k = n
    · subst hn; simp [Nat.beq_refl]
    · rw [beq_ne hn]
      exact find_idR (by omega)

/-- A pattern in a state's place: what is to be shown, and what is known behind it. -/
def wk (kp : Nat) (st st2 : St) (K : Prop) : Prop := match st, st2 with
  | ⟨sz, t, _, h, _⟩, ⟨sz2, t2, gs2, h2, nx2⟩ => match Nat.beq sz sz2 && Nat.ble kp nx2, gs2 with
    | true, [] => mtT t2 t (idR kp) fun σ => mtH nx2 [] h2 h σ fun _ => K
    | _, _ => False

section
variable {P : Program} {T : Tbl} {B : Base} {η : Names} {m : Mem} {st : St} {a : Act} {w : World}

theorem Hold.ren {h0 h2 : Heap} {nx nx2 : Nat} (hH : Hold B η m h0 nx w) {σ : Ren} (hd : HpOk nx2 [] h2 h0 σ) (hp : B.k0 ≤ nx2 ∧ ∀ n, n < B.k0 → find σ n = some (.nm n)) : Hold B (ηOf σ η) m h2 nx2 w := by
  have own : ∀ n c b, lookH h2 n = some c → (ηOf σ η n).own = some b → ∃ n0 c0, find σ n = some (.nm n0) ∧ lookH h0 n0 = some c0 ∧ (η n0).own = some b := by
    intro n c b hl ho
    rcases (hd.ck n c hl).2 with ⟨n0, c0, hf, hl0, _⟩ | ⟨A, e, z, hf, _⟩
    · rw [ηOf_nm hf] at ho
      exact ⟨n0, c0, hf, hl0, ho⟩
    · rw [ηOf_nil hf] at ho
      cases ho
  refine ⟨hH.imm, fun n c hl => ?_, fun n c b hl ho => ?_, fun n c n' c' b hl hl' hne ho ho' => ?_, hH.old, hH.size, hH.os, hH.tape, hH.output, hH.mle, hH.mnew, hp.1, fun n hn => ?_⟩
  · obtain ⟨hn, h | h⟩ := hd.ck n c hl
    · obtain ⟨b, c', hf, hl0, hc⟩ := h
      exact ⟨hn, hc η w (ηOf_nm hf η) (hH.ck b c' hl0).2⟩
    · obtain ⟨A, e, z, hf, rfl⟩ := h
      refine ⟨hn, ⟨⟨by simp, fun u hu => by cases hu⟩, .inl ?_⟩⟩
      rw [ηOf_nil hf]
      exact ⟨rfl, rfl, rfl⟩
  · obtain ⟨n0, c0, hf, hl0, ho0⟩ := own n c b hl ho
    exact hH.own n0 c0 b hl0 ho0
  · obtain ⟨n0, c0, hf, hl0, ho0⟩ := own n c b hl ho
    obtain ⟨n1, c1, hf1, hl1, ho1⟩ := own n' c' b hl' ho'
    have : n0 ≠ n1 := fun e => by subst e; exact hne (hd.inj n c n' c' n0 hl hl' hf hf1)
    exact hH.apart n0 c0 n1 c1 b hl0 hl1 this ho0 ho1
  · rw [ηOf_nm (hp.2 n hn)]
    exact hH.par.2 n hn

theorem wk_sound {kp : Nat} (hkp : B.k0 ≤ kp) {st2 : St} {K : Prop} (h : wk kp st st2 K) (hG : Good B [] η m st a w) : K ∧ ∃ η2, Good B [] η2 m st2 a w := by
  obtain ⟨sz, t, gs, h0, nx⟩ := st
  obtain ⟨sz2, t2, gs2, h2, nx2⟩ := st2
  simp only [wk] at h
  split at h
  · rename_i hb
    simp only [Bool.and_eq_true] at hb
    obtain rfl := beq_eq hb.1
    obtain ⟨σ1, h, he1, hd1⟩ := mtT_sound h
    obtain ⟨σ2, h, he2, hd2⟩ := mtH_sound h
    refine ⟨h, ηOf σ2 η, hG.H.ren (hd2 σ2 (.refl _)) ⟨Nat.le_trans hkp (ble_le hb.2), fun n hn => he2 _ _ (he1 _ _ (find_idR (by omega)))⟩, ⟨hG.T.sz, hG.T.df, fun k tag x hl => ?_, fun j g tg hl => by cases hl⟩⟩
    obtain ⟨rfl, y, hl0, hy⟩ := hd1 σ2 he2 η k tag x hl
    rw [hy]
    exact hG.T.sl k [] y hl0
  · exact h.elim

/-- The loop rule: a family of states, one per ghost, with a measure. -/
def LPs (T : Tbl) (CP : CallP) (DP : List Oper → St → Mem → (Ex → St → Mem → Prop) → Prop) (lv : List Nat) (kp : Nat) : Nat → Code → St → Mem → (Ex → St → Mem → Prop) → Prop
  | 0, _, _, _, _ => False
  | n + 1, c, st, m, K => ∃ (A : Type) (R : A → Prop) (I : A → St) (J : A → Mem) (μ : A → Nat), (∃ a, J a = m ∧ R a ∧ wk kp st (I a) True) ∧
    ∀ a, R a → exec T CP (LPs T CP DP lv kp n) DP lv c (fun e st m => match e with
      | .normal => ∃ a', J a' = m ∧ (R a' ∧ μ a' < μ a) ∧ wk kp st (I a') True
      | .exit i => K (.exit i) st m
      | .ret => K .ret st m
      | .panic x => K (.panic x) st m) (I a) (J a)

theorem LPs_ok (hT : TOk P T) {CP : CallP} (hCP : CPOkB P B CP) {DP : List Oper → St → Mem → (Ex → St → Mem → Prop) → Prop} (hDP : DPOk P B DP) {lv : List Nat} {kp : Nat} (hkp : B.k0 ≤ kp) : ∀ n, LPOk P B (LPs T CP DP lv kp n)
  | 0 => fun _ _ _ _ h => h.elim
  | n + 1 => by
    intro c st m K h η a w Q hG hK
    obtain ⟨A, R, I, J, μ, ⟨x0, hm, hR, hw⟩, round⟩ := h
    subst hm
    obtain ⟨_, η0, hG0⟩ := wk_sound hkp hw hG
    have key : ∀ k x η a w, μ x < k → R x → Good B [] η (J x) (I x) a w → Code.rounds P c Q k a w := by
      intro k
      induction k with
      | zero => intro x η a w hk; omega
      | succ k ih =>
        intro x η a w hk hR hG
        rw [rounds_succ]
        refine exec_sound hT hCP (LPs_ok hT hCP hDP hkp n) hDP (round x hR) hG fun e η st m a w h hG => ?_
        cases e with
        | normal =>
          obtain ⟨x', hm, ⟨hR', hμ⟩, hw⟩ := h
          subst hm
          obtain ⟨_, η', hG'⟩ := wk_sound hkp hw hG
          exact ih x' η' a w (by omega) hR' hG'
        | exit i => exact hK _ _ _ _ _ _ h hG
        | ret => exact hK _ _ _ _ _ _ h hG
        | panic x => exact hK _ _ _ _ _ _ h hG
    exact wp_loop_rounds _ (key (μ x0 + 1) x0 η0 a w (by omega) hR hG0)
end
end Go.Proofs.Ytjpjiniclibgkaa.Sx

namespace Go.Proofs.Ytjpjiniclibgkaa.Sx

/-- What a call is to find and what it leaves. Names below nx are the call's own from the start; nx2 bounds the names of what it leaves. -/
structure Spec where
  A : Type
  R : A → Prop
  J : A → Mem
  args : A → List SV
  h : A → Heap
  nx : Nat
  Bb : Type
  C : A → Bb → Prop
  out : A → Bb → Out
  h2 : A → Bb → Heap
  nx2 : Nat
  J2 : A → Bb → Mem := fun a _ => J a
  ext : Bool := false
  md : Nat := 0
  sd : List (Nat × Nat) := []
  so : Bool := false
/-- The memory that stays, behind the call. -/
def Spec.J3 (s : Spec) (a : s.A) (b : s.Bb) : Mem := match s.ext with
  | true => s.J2 a b
  | false => s.J a

def Out.ends (η : Names) : Out → Ending
  | .ret x => .returned (den η x)
  | .pan x => .panicked [{ v := den η x, recovered := false }]

def SpecOk (P : Program) (f : FuncId) (s : Spec) : Prop := Callable P f ∧ ∀ a, s.R a → ∀ (B : Base) (η : Names) (w : World), B.w0 = w → B.m0 = s.J a → B.k0 = s.nx → B.η0 = η → Hold B η (s.J a) (s.h a) s.nx w →
  Calls P f (dent η (s.args a)).toArray w fun e w' => ∃ b η', s.C a b ∧ Hold B η' (s.J3 a b) (s.h2 a b) s.nx2 w' ∧ e = (s.out a b).ends η'

def slotsOf : Nat → List SV → List Slot
  | _, [] => []
  | i, x :: r => ⟨i, [], x⟩ :: slotsOf (i + 1) r
/-- What a function gives back. -/
def resV (T : Tbl) (h : Heap) (t : List Slot) : List ResultVar → (List SV → Prop) → Prop
  | [], K => K []
  | .tmp k :: r, K => match look t k with
    | some ([], x) => resV T h t r fun l => K (x :: l)
    | _ => False
  | .cell c ty :: r, K => match look t c, T.at ty with
    | some ([], .p n o), some ti => match lookH h n with
      | some (.st _ cs) => getAt cs (aggD ti.d) o ti.size fun x => resV T h t r fun l => K (x :: l)
      | _ => False
    | _, _ => False
def outV : List SV → SV
  | [x] => x
  | l => .t l
/-- What is told of the memory that stays, at the end. -/
def jOk (s : Spec) (a : s.A) (b : s.Bb) (m : Mem) : Prop := match s.ext with
  | true => (∀ x o, s.J a x = some o → s.J2 a b x = some o) ∧ (∀ x o, s.J2 a b x = some o → m x = some o)
  | false => ∀ x o, s.J a x = some o → m x = some o
/-- The end: what is left is as stated. -/
def done1 (s : Spec) (a : s.A) (o : Out) (st : St) (m : Mem) : Prop := ∃ b, s.C a b ∧ (match Nat.ble s.nx s.nx2, s.out a b, o with
  | true, .ret x, .ret y => mt x y (idR s.nx) fun σ => mtH s.nx2 [] (s.h2 a b) st.h σ fun _ => jOk s a b m
  | true, .pan x, .pan y => mt x y (idR s.nx) fun σ => mtH s.nx2 [] (s.h2 a b) st.h σ fun _ => jOk s a b m
  | _, _, _ => False)
def done (s : Spec) (a : s.A) (o : Out) (st : St) (m : Mem) : Prop := match s.so, o with
  | true, .ret y => sealXs 9 st m [y] fun l st m => match l with
    | [y] => done1 s a (.ret y) st m
    | _ => False
  | _, o => done1 s a o st m
def fin (T : Tbl) (rs : List ResultVar) (s : Spec) (a : s.A) : Ex → St → Mem → Prop
  | .normal, st, m => resV T st.h st.t rs fun xs => done s a (.ret (outV xs)) st m
  | .ret, st, m => resV T st.h st.t rs fun xs => done s a (.ret (outV xs)) st m
  | .panic x, st, m => done s a (.pan x) st m
  | .exit _, _, _ => False

section
variable {P : Program} {T : Tbl} {B : Base} {η : Names} {m : Mem} {st : St} {a : Act} {w : World}

theorem slotsOf_sound {η : Names} : ∀ {l : List SV} {i k : Nat} {tag : Tag} {x : SV}, look (slotsOf i l) k = some (tag, x) → tag = [] ∧ i ≤ k ∧ (dent η l)[k - i]? = some (den η x)
  | [], _, _, _, _, h => by cases h
  | y :: r, i, k, tag, x, h => by
    simp only [slotsOf, look] at h
    split at h
    · rename_i hb
      obtain rfl := beq_eq hb
      cases h
      exact ⟨rfl, Nat.le_refl _, by simp [dent]⟩
    · obtain ⟨h1, h2, h3⟩ := slotsOf_sound h
      refine ⟨h1, by omega, ?_⟩
      have : k - i = (k - (i + 1)) + 1 := by omega
      rw [this, dent, List.getElem?_cons_succ]
      exact h3

theorem dent_length (η : Names) : ∀ l : List SV, (dent η l).length = l.length
  | [] => rfl
  | _ :: r => by simp only [dent, List.length_cons, dent_length η r]

theorem resV_sound (hT : TOk P T) {l : List Oper} (hG : Good B l η m st a w) {K : List SV → Prop} : ∀ {rs : List ResultVar}, resV T st.h st.t rs K → ∃ xs, K xs ∧ (rs.mapM fun (r : ResultVar) => match r with
      | .tmp t => (pure (a.tmps.getD t undef) : Sem Value)
      | .cell c t => do loadVar t (← asAddr (a.tmps.getD c undef))).run P w = .ok (dent η xs) w
  | [], h => ⟨[], h, rfl⟩
  | .tmp k :: r, h => by
    simp only [resV] at h
    split at h
    · rename_i x hl
      obtain ⟨xs, hk, hr⟩ := resV_sound hT hG h
      refine ⟨x :: xs, hk, ?_⟩
      have hx := hG.T.sl k [] x hl
      have : a.tmps.getD k undef = den η x := by rw [Array.getD_eq_getD_getElem?, hx]; rfl
      simp only [List.mapM_cons, Sem.run_bind, Sem.run_pure, Result.andThen_ok, this, hr, dent]
    · exact h.elim
  | .cell c ty :: r, h => by
    simp only [resV] at h
    split at h
    · rename_i n o ti hl hti
      split at h
      · rename_i e cs hlk
        obtain ⟨v, h, hv⟩ := getAt_sound h
        obtain ⟨xs, hk, hr⟩ := resV_sound hT hG h
        refine ⟨v :: xs, hk, ?_⟩
        have hx := hG.T.sl c [] _ hl
        obtain ⟨b, hA, _, hb⟩ := (hG.H.ck n _ hlk).2
        have hp : a.tmps.getD c undef = .pointer (some ⟨b, o, none⟩) := by
          rw [Array.getD_eq_getD_getElem?, hx]
          simp only [tagB, if_true, den, hA, Option.map_some, add_base, Option.getD_some]
        have hload : (loadVar ty ⟨b, o, none⟩).run P w = .ok (den η v) w := by
          have hv := hv η
          cases hd : aggD ti.d with
          | true =>
            rw [hd] at hv
            obtain ⟨hlen, hv⟩ := hv
            rw [hv]
            refine run_load_agg hT hti hd _ _ (by rw [List.length_take, List.length_drop]; omega) fun j u hu => ?_
            have : (⟨b, o, none⟩ : Addr).add j = ⟨b, o + j, none⟩ := by rw [← add_base, add_add, add_base]
            rw [this, cell_of_row w b (o + j) _ e (0, 0) hb]
            rw [List.getElem?_take] at hu
            split at hu
            · rw [List.getElem?_drop] at hu; simpa using hu
            · cases hu
          | false =>
            rw [hd] at hv
            exact run_load_one hT hti hd _ _ (by rw [cell_of_row w b o _ e (0, 0) hb]; simpa using hv)
        have has : (asAddr (a.tmps.getD c undef)).run P w = .ok ⟨b, o, none⟩ w := by rw [hp]; rfl
        simp only [List.mapM_cons, Sem.run_bind, Sem.run_pure, Result.andThen_ok, has, hload, hr, dent]
      · exact h.elim
    · exact h.elim

theorem results_sound (hT : TOk P T) {fn : Func} {l : List Oper} (hG : Good B l η m st a w) {K : List SV → Prop} (h : resV T st.h st.t fn.results.toList K) : ∃ xs, K xs ∧ (results fn a.tmps).run P w = .ok (den η (outV xs)) w := by
  obtain ⟨xs, hk, hr⟩ := resV_sound hT hG h
  refine ⟨xs, hk, ?_⟩
  unfold results
  rw [Array.mapM_eq_mapM_toList]
  simp only [map_eq_pure_bind, Sem.run_bind]
  erw [hr]
  simp only [Result.andThen_ok, Sem.run_pure]
  rcases xs with _ | ⟨x, _ | ⟨y, r⟩⟩
  · rfl
  · rfl
  · rfl

def slotsK : Nat → List SV → (List Slot → Prop) → Prop
  | _, [], K => K []
  | i, x :: r, K => forceN (i + 1) fun j => slotsK j r fun t => K (⟨i, [], x⟩ :: t)
theorem slotsK_eq : ∀ (l : List SV) (i : Nat) (K : List Slot → Prop), slotsK i l K = K (slotsOf i l)
  | [], i, K => rfl
  | x :: r, i, K => by simp only [slotsK, forceN_eq, slotsOf]; rw [slotsK_eq r (i + 1)]
def heapK : Heap → (Heap → Prop) → Prop
  | [], K => K []
  | (n, c) :: r, K => heapK r fun r => K ((n, c) :: r)
theorem heapK_eq : ∀ (h : Heap) (K : Heap → Prop), heapK h K = K h
  | [], K => rfl
  | (n, c) :: r, K => by simp only [heapK]; rw [heapK_eq r]
/-- What a call begins with. -/
def entry (n : Nat) (xs : List SV) (h : Heap) (nx : Nat) (K : St → Prop) : Prop := forceN n fun n => forceN nx fun nx => slotsK 0 xs fun t => heapK h fun h => K ⟨n, t, [], h, nx⟩
theorem entry_eq (n : Nat) (xs : List SV) (h : Heap) (nx : Nat) (K : St → Prop) : entry n xs h nx K = K ⟨n, slotsOf 0 xs, [], h, nx⟩ := by
  simp only [entry, forceN_eq]
  rw [slotsK_eq]
  rw [heapK_eq]

theorem spec_of_execM (hT : TOk P T) {CP : Mem → CallP} (hCP : ∀ B, CPOkB P B (CP B.m0)) {DP : Mem → List Oper → St → Mem → (Ex → St → Mem → Prop) → Prop} (hDP : ∀ B, DPOk P B (DP B.m0)) {lv : List Nat} {d : Nat} {f : FuncId} {fn : Func} {c : Code} (s : Spec)
    (hf : P.funcs[f]? = some fn) (hb : fn.body = some c) (hn : (fn.name == "runtime.NumGoroutine") = false) (hlen : ∀ a, (s.args a).length ≤ fn.ntmps)
    (h : ∀ a, s.R a → entry fn.ntmps (s.args a) (s.h a) s.nx fun st => exec T (CP (s.J a)) (LPs T (CP (s.J a)) (DP (s.J a)) lv s.nx d) (DP (s.J a)) lv c (fin T fn.results.toList s a) st (s.J a)) : SpecOk P f s := by
  simp only [entry_eq] at h
  refine ⟨⟨fn, hf, hn, by rw [hb]; rfl⟩, fun x hR B η w hw hm hk hη hH => ?_⟩
  have hG : Good B [] η (s.J x) ⟨fn.ntmps, slotsOf 0 (s.args x), [], s.h x, s.nx⟩ { tmps := (dent η (s.args x)).toArray ++ Array.replicate (fn.ntmps - (dent η (s.args x)).toArray.size) undef, defers := [] } w := by
    refine ⟨hH, ⟨?_, rfl, fun k tag y hl => ?_, fun j g tg hl => by cases hl⟩⟩
    · have := hlen x
      simp only [Array.size_append, Array.size_replicate, List.size_toArray, dent_length]
      omega
    · obtain ⟨rfl, _, hg⟩ := slotsOf_sound hl
      simp only [Nat.sub_zero] at hg
      have hlt : k < (dent η (s.args x)).length := (List.getElem?_eq_some_iff.1 hg).1
      rw [Array.getElem?_append_left (by simpa using hlt)]
      simpa [tagB] using hg
  have fine1 : ∀ {o : Out} {η' : Names} {st : St} {m : Mem} {a : Act} {w' : World}, done1 s x o st m → Good B [] η' m st a w' → ∃ b η2, s.C x b ∧ Hold B η2 (s.J3 x b) (s.h2 x b) s.nx2 w' ∧ (o.ends η' = (s.out x b).ends η2) := by
    intro o η' st m a w' hd hG'
    obtain ⟨b, hC, hd⟩ := hd
    have less : ∀ {η2 : Names}, jOk s x b m → Hold B η2 m (s.h2 x b) s.nx2 w' → Hold B η2 (s.J3 x b) (s.h2 x b) s.nx2 w' := by
      intro η2 hj hH2
      have h1 : ∀ y o, s.J3 x b y = some o → m y = some o := by
        intro y o hy
        unfold jOk at hj
        unfold Spec.J3 at hy
        split at hj
        · rename_i he
          rw [he] at hy
          exact hj.2 y o hy
        · rename_i he
          rw [he] at hy
          exact hj y o hy
      have h2 : ∀ y o, s.J x y = some o → s.J3 x b y = some o := by
        intro y o hy
        unfold jOk at hj
        unfold Spec.J3
        split at hj
        · rename_i he
          rw [he]
          exact hj.1 y o hy
        · rename_i he
          rw [he]
          exact hy
      refine ⟨fun y o hy => hH2.imm y o (h1 y o hy), hH2.ck, fun n c y hl ho => ⟨?_, (hH2.own n c y hl ho).2⟩, hH2.apart, hH2.old, hH2.size, hH2.os, hH2.tape, hH2.output, fun y o hy => h2 y o (by rw [← hm]; exact hy), fun y o hy => hH2.mnew y o (h1 y o hy), hH2.par⟩
      cases hy : s.J3 x b y with
      | none => rfl
      | some o =>
        have := (hH2.own n c y hl ho).1
        rw [h1 y o hy] at this
        cases this
    have key : ∀ {y z : SV}, Nat.ble s.nx s.nx2 = true → (mt y z (idR s.nx) fun σ => mtH s.nx2 [] (s.h2 x b) st.h σ fun _ => jOk s x b m) → ∃ η2, Hold B η2 (s.J3 x b) (s.h2 x b) s.nx2 w' ∧ den η' z = den η2 y := by
      intro y z hle hd
      obtain ⟨σ1, hd, he1, hd1⟩ := mt_sound hd
      obtain ⟨σ2, hmm, he2, hd2⟩ := mtH_sound hd
      exact ⟨ηOf σ2 η', less hmm (hG'.H.ren (hd2 σ2 (.refl _)) ⟨by rw [hk]; exact ble_le hle, fun n hn => he2 _ _ (he1 _ _ (find_idR (by omega)))⟩), (hd1 σ2 he2 η').1.symm⟩
    split at hd
    · rename_i y z hle hout
      obtain ⟨η2, hH2, hz⟩ := key hle hd
      exact ⟨b, η2, hC, hH2, by rw [hout]; simp only [Out.ends, hz]⟩
    · rename_i y z hle hout
      obtain ⟨η2, hH2, hz⟩ := key hle hd
      exact ⟨b, η2, hC, hH2, by rw [hout]; simp only [Out.ends, hz]⟩
    · exact hd.elim
  have fine : ∀ {o : Out} {η' : Names} {st : St} {m : Mem} {a : Act} {w' : World}, done s x o st m → Good B [] η' m st a w' → ∃ b η2, s.C x b ∧ Hold B η2 (s.J3 x b) (s.h2 x b) s.nx2 w' ∧ (o.ends η' = (s.out x b).ends η2) := by
    intro o η' st m a w' hd hG'
    unfold done at hd
    split at hd
    · rename_i y _
      obtain ⟨l', st', m', hd, hg, _, h2⟩ := sealXs_sound hd hG'
      rcases l' with _ | ⟨y', _ | ⟨z, l2⟩⟩
      · exact hd.elim
      · simp only [dent, List.cons.injEq, and_true] at h2
        obtain ⟨b, η2, h3, h4, h5⟩ := fine1 hd hg
        exact ⟨b, η2, h3, h4, by rw [← h5]; simp only [Out.ends, h2]⟩
      · exact hd.elim
    · exact fine1 hd hG'
  have hCB := hCP B
  have hDB := hDP B
  rw [hm] at hCB hDB
  refine calls_of_wp hf hb (exec_sound hT hCB (LPs_ok hT hCB hDB (by rw [hk]; exact Nat.le_refl _) d) hDB (h x hR) hG fun e η' st m a w' hK hG' => ?_)
  have ret : (resV T st.h st.t fn.results.toList fun xs => done s x (.ret (outV xs)) st m) → a.defers = [] ∧ ∃ v, (results fn a.tmps).run P w' = .ok v w' ∧ ∃ b η2, s.C x b ∧ Hold B η2 (s.J3 x b) (s.h2 x b) s.nx2 w' ∧ Ending.returned v = (s.out x b).ends η2 := by
    intro hK
    obtain ⟨xs, hd, hr⟩ := results_sound hT hG' hK
    exact ⟨hG'.T.df, _, hr, fine hd hG'⟩
  cases e with
  | normal => exact ret hK
  | ret => exact ret hK
  | panic y => exact ⟨hG'.T.df, fine hK hG'⟩
  | exit i => exact hK.elim
theorem spec_of_exec (hT : TOk P T) {CP : CallP} (hCP : CPOk P CP) {DP : List Oper → St → Mem → (Ex → St → Mem → Prop) → Prop} (hDP : ∀ B, DPOk P B DP) {lv : List Nat} {d : Nat} {f : FuncId} {fn : Func} {c : Code} (s : Spec)
    (hf : P.funcs[f]? = some fn) (hb : fn.body = some c) (hn : (fn.name == "runtime.NumGoroutine") = false) (hlen : ∀ a, (s.args a).length ≤ fn.ntmps)
    (h : ∀ a, s.R a → entry fn.ntmps (s.args a) (s.h a) s.nx fun st => exec T CP (LPs T CP DP lv s.nx d) DP lv c (fin T fn.results.toList s a) st (s.J a)) : SpecOk P f s :=
  spec_of_execM hT (CP := fun _ => CP) (fun B => hCP B) (DP := fun _ => DP) hDP s hf hb hn hlen h
end
end Go.Proofs.Ytjpjiniclibgkaa.Sx

namespace Go.Proofs.Ytjpjiniclibgkaa.Sx

def rn (σ : Ren) (bs n : Nat) : Nat := match find σ n with
  | some (.nm b) => b
  | _ => bs + n
mutual
def rnV (σ : Ren) (bs : Nat) : SV → (SV → Prop) → Prop
  | .p n o, K => K (.p (rn σ bs n) o)
  | .pj n o j, K => K (.pj (rn σ bs n) o j)
  | .rw n l, K => K (.rw (rn σ bs n) l)
  | .g cs, K => rnVs σ bs cs fun cs => K (.g cs)
  | .t cs, K => rnVs σ bs cs fun cs => K (.t cs)
  | .e ty x, K => rnV σ bs x fun x => K (.e ty x)
  | .fn f a c, K => rnVs σ bs a fun a => rnVs σ bs c fun c => K (.fn f a c)
  | .b x, K => K (.b x)
  | .i k n, K => K (.i k n)
  | .s x, K => K (.s x)
  | .el A o, K => K (.el A o)
  | .np, K => K .np
  | .sl A l c, K => K (.sl A l c)
  | .gi n k f, K => K (.gi n k f)
  | .ne, K => K .ne
  | .v x, K => K (.v x)
  | .kb x, K => K (.kb x)
  | .ud, K => K .ud
def rnVs (σ : Ren) (bs : Nat) : List SV → (List SV → Prop) → Prop
  | [], K => K []
  | x :: r, K => rnV σ bs x fun x => rnVs σ bs r fun r => K (x :: r)
end
def rnC (σ : Ren) (bs : Nat) : Ck → (Ck → Prop) → Prop
  | .st e cs, K => rnVs σ bs cs fun cs => K (.st e cs)
  | .row e z n xs, K => K (.row e z n xs)
def rnH (σ : Ren) (bs : Nat) : Heap → Heap → (Heap → Prop) → Prop
  | [], h0, K => K h0
  | (n, c) :: r, h0, K => rnC σ bs c fun c => rnH σ bs r h0 fun h => K ((rn σ bs n, c) :: h)
def delT : Heap → Ren → Heap → (Heap → Prop) → Prop
  | [], _, h, K => K h
  | (n, _) :: r, σ, h, K => match find σ n with
    | some (.nm b) => delHK h b fun h => delT r σ h K
    | _ => delT r σ h K
def okR (nx bs : Nat) : Ren → Bool
  | [] => true
  | (n, .nm b) :: r => Nat.blt n nx && Nat.blt b bs && okR nx bs r
  | (_, .nil _) :: r => okR nx bs r
def findS : List (Nat × Spec) → Nat → Option Spec
  | [], _ => none
  | (f, s) :: r, k => match Nat.beq f k with
    | true => some s
    | false => findS r k
def withN (st : St) (h : Heap) (nx : Nat) (K : St → Prop) : Prop := match st with
  | ⟨sz, t, gs, _, _⟩ => K ⟨sz, t, gs, h, nx⟩

/-- What a caller goes on with behind a call. -/
def callK (s : Spec) (a : s.A) (σ : Ren) (st : St) (h0 : Heap) (m : Mem) (K : Out → St → Mem → Prop) (b : s.Bb) : Prop := match st with
  | ⟨sz, t, gs, _, nx⟩ => match s.out a b with
    | .ret x => rnV σ nx x fun x => rnH σ nx (s.h2 a b) h0 fun h => forceN (nx + s.nx2) fun nx' => K (.ret x) ⟨sz, t, gs, h, nx'⟩ m
    | .pan x => rnV σ nx x fun x => rnH σ nx (s.h2 a b) h0 fun h => forceN (nx + s.nx2) fun nx' => K (.pan x) ⟨sz, t, gs, h, nx'⟩ m
def callS (s : Spec) (xs : List SV) (st : St) (m : Mem) (K : Out → St → Mem → Prop) : Prop := match st with
  | ⟨sz, t, gs, hp, nx⟩ => ∃ a, s.R a ∧ mtt (s.args a) xs [] fun σ => mtH s.nx [] (s.h a) hp σ fun σ => match okR s.nx nx σ && okSt ⟨sz, t, gs, hp, nx⟩ with
    | true => (∀ x o, s.J a x = some o → m x = some o) ∧ delT (s.h a) σ hp fun h0 => ∀ b, s.C a b → (match s.ext with
      | false => callK s a σ ⟨sz, t, gs, hp, nx⟩ h0 m K b
      | true => ∀ m2 : Mem, (∀ x o, m x = some o → m2 x = some o) → (∀ x o, s.J2 a b x = some o → m2 x = some o) → callK s a σ ⟨sz, t, gs, hp, nx⟩ h0 m2 K b)
    | false => False
/-- A call that is lent what it is handed. -/
def callR (s : Spec) (xs : List SV) (st : St) (m : Mem) (K : Out → St → Mem → Prop) : Prop := match st with
  | ⟨sz, t, gs, hp, nx⟩ => sealXs 9 ⟨sz, t, gs, hp, nx⟩ m xs fun xs _ m' => match s.ext with
    | true => False
    | false => ∃ a, s.R a ∧ mtt (s.args a) xs [] fun σ => match s.h a, okR s.nx nx σ && okSt ⟨sz, t, gs, hp, nx⟩ with
      | [], true => (∀ x o, s.J a x = some o → m' x = some o) ∧ ∀ b, s.C a b → callK s a σ ⟨sz, t, gs, hp, nx⟩ hp m K b
      | _, _ => False
mutual
/-- The blocks that a value points to, in order. -/
def ptrs : SV → List Nat
  | .p n _ => [n]
  | .fn _ a c => ptrss a ++ ptrss c
  | _ => []
def ptrss : List SV → List Nat
  | [] => []
  | x :: r => ptrs x ++ ptrss r
end
def nthN : List Nat → Nat → Option Nat
  | [], _ => none
  | x :: _, 0 => some x
  | _ :: r, k + 1 => nthN r k
/-- Rows that lie at these places of the blocks that are pointed to stay from now on. -/
def sealD : List (Nat × Nat) → List SV → St → Mem → (List SV → St → Mem → Prop) → Prop
  | [], xs, st, m, K => K xs st m
  | (k, o) :: l, xs, st, m, K => match nthN (ptrss xs) k with
    | some b => match lookH st.h b with
      | some (.st _ cs) => partAt cs o fun x => match x with
        | .rw r _ => sealE st m r fun A cap st m => sbVs r A cap xs fun xs => sealD l xs st m K
        | _ => sealD l xs st m K
      | _ => sealD l xs st m K
    | none => sealD l xs st m K
/-- A call, by what is stated of the function. -/
def CPf (S : List (Nat × Spec)) : CallF := fun f xs st m K => match findS S f with
  | none => False
  | some s => sealD s.sd xs st m fun xs st m => match s.md with
    | 0 => callS s xs st m K
    | 1 => callR s xs st m K
    | _ => sealXs 9 st m xs fun xs st m => callS s xs st m K

def CPs (S : List (Nat × Spec)) : CallP := ⟨CPf S, fun _ => False⟩
/-- The same, where blocks that the call did not find may be written. -/
def CPm (S : List (Nat × Spec)) (m0 : Mem) : CallP := ⟨CPf S, fun b => m0 b = none⟩

def RnOk (σ : Ren) (bs : Nat) (η' η2 : Names) : Prop := ∀ n, η' (rn σ bs n) = η2 n

mutual
theorem rnV_sound {σ : Ren} {bs : Nat} {K : SV → Prop} : ∀ {x : SV}, rnV σ bs x K → ∃ x', K x' ∧ ∀ η' η2, RnOk σ bs η' η2 → den η' x' = den η2 x ∧ pc x' (den η' x') = pc x (den η2 x)
  | .p n o, h => ⟨_, h, fun η' η2 hr => by simp [den, pc, hr n]⟩
  | .pj n o j, h => ⟨_, h, fun η' η2 hr => by simp [den, pc, hr n]⟩
  | .rw n l, h => ⟨_, h, fun η' η2 hr => by simp [den, pc, hr n]⟩
  | .g cs, h => by
    simp only [rnV] at h
    obtain ⟨cs', h, hd⟩ := rnVs_sound h
    exact ⟨_, h, fun η' η2 hr => by simp [den, pc, (hd η' η2 hr).1]⟩
  | .t cs, h => by
    simp only [rnV] at h
    obtain ⟨cs', h, hd⟩ := rnVs_sound h
    exact ⟨_, h, fun η' η2 hr => by simp [den, pc, (hd η' η2 hr).2]⟩
  | .e ty x, h => by
    simp only [rnV] at h
    obtain ⟨cs', h, hd⟩ := rnV_sound h
    exact ⟨_, h, fun η' η2 hr => by simp [den, pc, (hd η' η2 hr).1]⟩
  | .fn f a c, h => by
    simp only [rnV] at h
    obtain ⟨a', h, hd⟩ := rnVs_sound h
    obtain ⟨c', h, hd2⟩ := rnVs_sound h
    exact ⟨_, h, fun η' η2 hr => by simp [den, pc, (hd η' η2 hr).2, (hd2 η' η2 hr).2]⟩
  | .b x, h => ⟨_, h, fun _ _ _ => ⟨rfl, rfl⟩⟩
  | .i k n, h => ⟨_, h, fun _ _ _ => ⟨rfl, rfl⟩⟩
  | .s x, h => ⟨_, h, fun _ _ _ => ⟨rfl, rfl⟩⟩
  | .el A o, h => ⟨_, h, fun _ _ _ => ⟨rfl, rfl⟩⟩
  | .np, h => ⟨_, h, fun _ _ _ => ⟨rfl, rfl⟩⟩
  | .sl A l c, h => ⟨_, h, fun _ _ _ => ⟨rfl, rfl⟩⟩
  | .gi n k f, h => ⟨_, h, fun _ _ _ => ⟨rfl, rfl⟩⟩
  | .ne, h => ⟨_, h, fun _ _ _ => ⟨rfl, rfl⟩⟩
  | .v x, h => ⟨_, h, fun _ _ _ => ⟨rfl, rfl⟩⟩
  | .kb x, h => ⟨_, h, fun _ _ _ => ⟨rfl, rfl⟩⟩
  | .ud, h => ⟨_, h, fun _ _ _ => ⟨rfl, rfl⟩⟩
theorem rnVs_sound {σ : Ren} {bs : Nat} {K : List SV → Prop} : ∀ {x : List SV}, rnVs σ bs x K → ∃ x', K x' ∧ ∀ η' η2, RnOk σ bs η' η2 → dens η' x' = dens η2 x ∧ dent η' x' = dent η2 x
  | [], h => ⟨[], h, fun _ _ _ => ⟨rfl, rfl⟩⟩
  | x :: r, h => by
    simp only [rnVs] at h
    obtain ⟨x', h, hd⟩ := rnV_sound h
    obtain ⟨r', h, hd2⟩ := rnVs_sound h
    exact ⟨_, h, fun η' η2 hr => ⟨by rw [dens, dens, (hd η' η2 hr).2, (hd2 η' η2 hr).1], by rw [dent, dent, (hd η' η2 hr).1, (hd2 η' η2 hr).2]⟩⟩
end
theorem rnC_sound {σ : Ren} {bs : Nat} {K : Ck → Prop} {c : Ck} (h : rnC σ bs c K) : ∃ c', K c' ∧ ∀ η' η2 w n, RnOk σ bs η' η2 → CkAt η2 w n c → CkAt η' w (rn σ bs n) c' := by
  cases c with
  | st e cs =>
    obtain ⟨cs', h, hd⟩ := rnVs_sound h
    refine ⟨_, h, fun η' η2 w n hr hc => ?_⟩
    simp only [CkAt] at hc ⊢
    rw [hr n, (hd η' η2 hr).1]
    exact hc
  | row e z k xs =>
    refine ⟨_, h, fun η' η2 w n hr hc => ?_⟩
    simp only [CkAt] at hc ⊢
    rw [hr n]
    exact hc
theorem rnH_sound {σ : Ren} {bs : Nat} {h0 : Heap} {K : Heap → Prop} : ∀ {h2 : Heap}, rnH σ bs h2 h0 K → ∃ h', K h' ∧ ∀ k c, lookH h' k = some c →
    (∃ n c0, lookH h2 n = some c0 ∧ k = rn σ bs n ∧ ∀ η' η2 w, RnOk σ bs η' η2 → CkAt η2 w n c0 → CkAt η' w (rn σ bs n) c) ∨ lookH h0 k = some c
  | [], h => ⟨h0, h, fun _ _ h => .inr h⟩
  | (n, c) :: r, h => by
    simp only [rnH] at h
    obtain ⟨c', h, hc⟩ := rnC_sound h
    obtain ⟨h', h, hh⟩ := rnH_sound h
    refine ⟨_, h, fun k d hl => ?_⟩
    simp only [lookH] at hl
    split at hl
    · rename_i hb
      cases hl
      exact .inl ⟨n, c, by simp [lookH, Nat.beq_refl], (beq_eq hb).symm, fun η' η2 w => hc η' η2 w n⟩
    · rename_i hb
      rcases hh k d hl with ⟨n', c0, hl', hk, hx⟩ | h
      · refine .inl ⟨n', c0, ?_, hk, hx⟩
        have : n ≠ n' := fun e => by subst e; subst hk; rw [Nat.beq_refl] at hb; cases hb
        simp only [lookH, beq_ne this]
        exact hl'
      · exact .inr h
theorem delT_sound {σ : Ren} {K : Heap → Prop} : ∀ {h2 h : Heap}, delT h2 σ h K → ∃ h', K h' ∧ (∀ k c, lookH h' k = some c → lookH h k = some c ∧ ∀ n d, lookH h2 n = some d → find σ n ≠ some (.nm k)) ∧ ∀ nx, okH nx h = true → okH nx h' = true
  | [], h, hs => ⟨h, hs, fun k c hl => ⟨hl, fun _ _ h => (by cases h)⟩, fun _ h => h⟩
  | (n, c) :: r, h, hs => by
    have cases' : ∀ n' c'', lookH ((n, c) :: r) n' = some c'' → n' = n ∨ lookH r n' = some c'' := by
      intro n' c'' hl'
      simp only [lookH] at hl'
      split at hl'
      · rename_i hb
        exact .inl (beq_eq hb).symm
      · exact .inr hl'
    simp only [delT] at hs
    split at hs
    · rename_i b hf
      obtain ⟨h1, hs, hd, hok⟩ := delHK_sound hs
      obtain ⟨h', hk, hd2, hok2⟩ := delT_sound hs
      refine ⟨h', hk, fun k c hl => ?_, fun nx ho => hok2 nx (hok nx ho)⟩
      obtain ⟨e1, e2⟩ := hd2 k c hl
      obtain ⟨e3, e4⟩ := hd k c e1
      refine ⟨e3, fun n' d hl' => ?_⟩
      rcases cases' n' d hl' with rfl | hl'
      · rw [hf]
        intro e
        cases e
        exact e4 rfl
      · exact e2 n' d hl'
    · rename_i hf
      obtain ⟨h', hk, hd2, hok2⟩ := delT_sound hs
      refine ⟨h', hk, fun k c hl => ?_, hok2⟩
      obtain ⟨e1, e2⟩ := hd2 k c hl
      refine ⟨e1, fun n' d hl' => ?_⟩
      rcases cases' n' d hl' with rfl | hl'
      · exact fun e => hf k e
      · exact e2 n' d hl'
theorem okR_sound {nx bs : Nat} : ∀ {σ : Ren}, okR nx bs σ = true → ∀ n b, find σ n = some (.nm b) → n < nx ∧ b < bs
  | [], _, _, _, h => by cases h
  | (k, .nm c) :: r, ho, n, b, h => by
    simp only [okR, Bool.and_eq_true] at ho
    simp only [find] at h
    split at h
    · rename_i hb
      obtain rfl := beq_eq hb
      cases h
      exact ⟨blt_lt ho.1.1, blt_lt ho.1.2⟩
    · exact okR_sound ho.2 n b h
  | (k, .nil A) :: r, ho, n, b, h => by
    simp only [okR] at ho
    simp only [find] at h
    split at h
    · cases h
    · exact okR_sound ho n b h
end Go.Proofs.Ytjpjiniclibgkaa.Sx

namespace Go.Proofs.Ytjpjiniclibgkaa.Sx

/-- The blocks that a call is handed as its own. -/
def modsOf (η : Names) : Heap → List Nat
  | [] => []
  | (n, _) :: r => (match (η n).own with | some b => [b] | none => []) ++ modsOf η r
theorem modsOf_in {η : Names} {b : Nat} : ∀ {h : Heap} {n : Nat} {c : Ck}, lookH h n = some c → (η n).own = some b → b ∈ modsOf η h
  | (i, d) :: r, n, c, hl, ho => by
    simp only [lookH] at hl
    simp only [modsOf, List.mem_append]
    split at hl
    · rename_i hb
      obtain rfl := beq_eq hb
      exact .inl (by rw [ho]; simp)
    · exact .inr (modsOf_in hl ho)
theorem modsOf_out {η : Names} {b : Nat} : ∀ {h : Heap}, b ∈ modsOf η h → ∃ n c, lookH h n = some c ∧ (η n).own = some b
  | (i, d) :: r, hm => by
    simp only [modsOf, List.mem_append] at hm
    rcases hm with hm | hm
    · refine ⟨i, d, by simp [lookH, Nat.beq_refl], ?_⟩
      cases ho : (η i).own with
      | none => rw [ho] at hm; cases hm
      | some b' => rw [ho] at hm; simp only [List.mem_singleton] at hm; rw [hm]
    · obtain ⟨n, c, hl, ho⟩ := modsOf_out hm
      by_cases hin : i = n
      · subst hin
        exact ⟨i, d, by simp [lookH, Nat.beq_refl], ho⟩
      · exact ⟨n, c, by simp only [lookH, beq_ne hin]; exact hl, ho⟩

section
variable {P : Program} {B : Base} {η : Names} {m : Mem} {st : St} {a : Act} {w : World}

/-- What a callee begins with. -/
theorem Hold.enter {h0 h2 : Heap} {nx nx2 : Nat} (hH : Hold B η m h0 nx w) {σ : Ren} (hd : HpOk nx2 [] h2 h0 σ) {J : Mem} (hJ : ∀ x o, J x = some o → m x = some o) :
    Hold ⟨w, modsOf (ηOf σ η) h2, J, nx2, ηOf σ η⟩ (ηOf σ η) J h2 nx2 w := by
  have hH0 : Hold ⟨B.w0, B.mods, B.m0, 0, B.η0⟩ η m h0 nx w := ⟨hH.imm, hH.ck, hH.own, hH.apart, hH.old, hH.size, hH.os, hH.tape, hH.output, hH.mle, hH.mnew, Nat.zero_le _, fun n hn => absurd hn (Nat.not_lt_zero n)⟩
  have h1 := hH0.ren hd ⟨Nat.zero_le _, fun n hn => absurd hn (Nat.not_lt_zero n)⟩
  refine ⟨fun b o hb => h1.imm b o (hJ b o hb), h1.ck, fun n c b hl ho => ⟨?_, (h1.own n c b hl ho).2.1, .inl (modsOf_in hl ho)⟩, h1.apart, fun _ _ _ => rfl, Nat.le_refl _, rfl, rfl, rfl, fun _ _ h => h, fun _ _ h => .inl h, Nat.le_refl _, fun _ _ => rfl⟩
  cases hj : J b with
  | none => rfl
  | some o =>
    have := (h1.own n c b hl ho).1
    rw [hJ b o hj] at this
    cases this

/-- What a caller goes on with. -/
theorem Good.back {l : List Oper} (hG : Good B l η m st a w) {s : Spec} {x : s.A} {b : s.Bb} {σ : Ren} (hd : HpOk s.nx [] (s.h x) st.h σ) (hR : okR s.nx st.nx σ = true) (hok : okSt st = true) {J J' m' : Mem} (hm1 : ∀ y o, m y = some o → m' y = some o) (hm2 : ∀ y o, m' y = some o → m y = some o ∨ (J' y = some o ∧ J y = none))
    {h0 : Heap} (h0l : ∀ k c, lookH h0 k = some c → lookH st.h k = some c ∧ ∀ n d, lookH (s.h x) n = some d → find σ n ≠ some (.nm k))
    {w' : World} {η2 : Names} (hH2 : Hold ⟨w, modsOf (ηOf σ η) (s.h x), J, s.nx, ηOf σ η⟩ η2 J' (s.h2 x b) s.nx2 w') {h' : Heap}
    (hh : ∀ k c, lookH h' k = some c → (∃ n c0, lookH (s.h2 x b) n = some c0 ∧ k = rn σ st.nx n ∧ ∀ η' η2 w, RnOk σ st.nx η' η2 → CkAt η2 w n c0 → CkAt η' w (rn σ st.nx n) c) ∨ lookH h0 k = some c) :
    ∃ η', RnOk σ st.nx η' η2 ∧ Good B l η' m' ⟨st.sz, st.t, st.gs, h', st.nx + s.nx2⟩ a w' := by
  obtain ⟨sz, t, gs, hp, nx⟩ := st
  simp only [okSt, Bool.and_eq_true] at hok
  have hH := hG.H
  simp only at hH hd h0l
  have hag : Agree nx η (fun n => if n < nx then η n else η2 (n - nx)) := fun n hn => by simp [hn]
  have hrn : RnOk σ nx (fun n => if n < nx then η n else η2 (n - nx)) η2 := by
    intro n
    unfold rn
    split
    · rename_i c hf
      obtain ⟨h1, h2⟩ := okR_sound hR n c hf
      simp only [h2, if_true]
      rw [hH2.par.2 n h1]
      exact (ηOf_nm hf η).symm
    · have : ¬ nx + n < nx := by omega
      simp [this]
  generalize hη' : (fun n => if n < nx then η n else η2 (n - nx)) = η' at hag hrn
  have hmods : ∀ y, y ∈ modsOf (ηOf σ η) (s.h x) → ∃ n d k c, lookH (s.h x) n = some d ∧ find σ n = some (.nm k) ∧ lookH hp k = some c ∧ (η k).own = some y := by
    intro y hy
    obtain ⟨n, d, hl, ho⟩ := modsOf_out hy
    rcases (hd.ck n d hl).2 with ⟨k, c, hf, hlk, _⟩ | ⟨A, e, z, hf, _⟩
    · rw [ηOf_nm hf] at ho
      exact ⟨n, d, k, c, hl, hf, hlk, ho⟩
    · rw [ηOf_nil hf] at ho
      cases ho
  have hmm : ∀ y, y ∈ modsOf (ηOf σ η) (s.h x) → m y = none ∧ y < w.heap.size ∧ (y ∈ B.mods ∨ B.w0.heap.size ≤ y) := by
    intro y hy
    obtain ⟨n, d, k, c, _, _, hlk, ho⟩ := hmods y hy
    exact hH.own k c y hlk ho
  have hold0 : ∀ y, y < w.heap.size → y ∉ modsOf (ηOf σ η) (s.h x) → w'.heap[y]? = w.heap[y]? := fun y h1 h2 => hH2.old y h1 h2
  have hs : w.heap.size ≤ w'.heap.size := hH2.size
  have hfresh : ∀ k c y, lookH h0 k = some c → (η k).own = some y → y < w.heap.size ∧ y ∉ modsOf (ηOf σ η) (s.h x) := by
    intro k c y hl ho
    obtain ⟨hl1, hn⟩ := h0l k c hl
    refine ⟨(hH.own k c y hl1 ho).2.1, fun hy => ?_⟩
    obtain ⟨n, d, k', c', hln, hf, hlk, ho'⟩ := hmods y hy
    by_cases hkk : k = k'
    · subst hkk
      exact hn n d hln hf
    · exact hH.apart k c k' c' y hl1 hlk hkk ho ho'
  have hk0 : ∀ k c, lookH h0 k = some c → k < nx ∧ okC nx c = true ∧ η' k = η k := by
    intro k c hl
    obtain ⟨h1, h2⟩ := okH_look hok.2 (h0l k c hl).1
    exact ⟨h1, h2, hag k h1⟩
  refine ⟨η', hrn, ⟨⟨fun y o hy => ?_, fun k c hl => ?_, fun k c y hl ho => ?_, fun k c k' c' y hl hl' hne ho ho' => ?_, fun y hy hym => ?_, Nat.le_trans hH.size hs, hH2.os.trans hH.os, hH2.tape.trans hH.tape, hH2.output.trans hH.output, fun y o hy => hm1 y o (hH.mle y o hy), fun y o hy => ?_, Nat.le_trans hH.par.1 (Nat.le_add_right _ _), fun n hn => ?_⟩, ?_⟩⟩
  · rcases hm2 y o hy with hy | ⟨hy, _⟩
    · rw [hold0 y (heap_lt (hH.imm y o hy)) (fun h => by rw [(hmm y h).1] at hy; cases hy)]
      exact hH.imm y o hy
    · exact hH2.imm y o hy
  · rcases hh k c hl with ⟨n, c0, hln, rfl, hc⟩ | hl
    · obtain ⟨hn, hck⟩ := hH2.ck n c0 hln
      refine ⟨?_, hc η' η2 w' hrn hck⟩
      unfold rn
      split
      · rename_i y hf
        exact Nat.lt_of_lt_of_le (okR_sound hR n y hf).2 (Nat.le_add_right _ _)
      · simp only
        omega
    · obtain ⟨h1, h2, h3⟩ := hk0 k c hl
      refine ⟨Nat.lt_of_lt_of_le h1 (Nat.le_add_right _ _), (hH.ck k c (h0l k c hl).1).2.kept h3 (fun e cs hcs => ?_) (fun y hy => ?_)⟩
      · subst hcs
        exact dens_ok hag cs h2
      · obtain ⟨e1, e2⟩ := hfresh k c y hl hy
        exact hold0 y e1 e2
  · rcases hh k c hl with ⟨n, c0, hln, rfl, hc⟩ | hl
    · rw [hrn n] at ho
      obtain ⟨g0, h2, h3⟩ := hH2.own n c0 y hln ho
      have no : m y = none → m' y = none := by
        intro hy
        cases hy' : m' y with
        | none => rfl
        | some o =>
          rcases hm2 y o hy' with h4 | ⟨h4, _⟩
          · rw [hy] at h4; cases h4
          · rw [g0] at h4; cases h4
      rcases h3 with h3 | h3
      · obtain ⟨g1, _, g3⟩ := hmm y h3
        exact ⟨no g1, h2, g3⟩
      · refine ⟨no ?_, h2, .inr (Nat.le_trans hH.size h3)⟩
        cases hy : m y with
        | none => rfl
        | some o =>
          have := heap_lt (hH.imm y o hy)
          simp only at h3
          omega
    · obtain ⟨h1, h2, h3⟩ := hk0 k c hl
      rw [h3] at ho
      obtain ⟨g1, g2, g3⟩ := hH.own k c y (h0l k c hl).1 ho
      refine ⟨?_, Nat.lt_of_lt_of_le g2 hs, g3⟩
      cases hy : m' y with
      | none => rfl
      | some o =>
        rcases hm2 y o hy with h4 | ⟨h4, h5⟩
        · rw [g1] at h4; cases h4
        · obtain ⟨e1, e2⟩ := hfresh k c y hl ho
          rcases hH2.mnew y o h4 with h6 | h6 | h6
          · simp only at h6; rw [h5] at h6; cases h6
          · simp only at h6; omega
          · exact absurd h6 e2
  · have mix : ∀ n c0 k c y, lookH (s.h2 x b) n = some c0 → (η2 n).own = some y → lookH h0 k = some c → (η k).own = some y → False := by
      intro n c0 k c y hln ho hl ho'
      obtain ⟨e1, e2⟩ := hfresh k c y hl ho'
      rcases (hH2.own n c0 y hln ho).2.2 with h3 | h3
      · exact e2 h3
      · simp only at h3
        omega
    rcases hh k c hl with ⟨n, c0, hln, rfl, _⟩ | hl <;> rcases hh k' c' hl' with ⟨n', c0', hln', rfl, _⟩ | hl'
    · rw [hrn n] at ho
      rw [hrn n'] at ho'
      exact hH2.apart n c0 n' c0' y hln hln' (fun e => hne (by rw [e])) ho ho'
    · rw [hrn n] at ho
      rw [(hk0 k' c' hl').2.2] at ho'
      exact mix n c0 k' c' y hln ho hl' ho'
    · rw [hrn n'] at ho'
      rw [(hk0 k c hl).2.2] at ho
      exact mix n' c0' k c y hln' ho' hl ho
    · rw [(hk0 k c hl).2.2] at ho
      rw [(hk0 k' c' hl').2.2] at ho'
      exact hH.apart k c k' c' y (h0l k c hl).1 (h0l k' c' hl').1 hne ho ho'
  · rw [hold0 y (Nat.lt_of_lt_of_le hy hH.size) (fun h => ?_)]
    · exact hH.old y hy hym
    · rcases (hmm y h).2.2 with h3 | h3
      · exact hym h3
      · omega
  · rcases hm2 y o hy with h4 | ⟨h4, h5⟩
    · exact hH.mnew y o h4
    · rcases hH2.mnew y o h4 with h6 | h6 | h6
      · simp only at h6; rw [h5] at h6; cases h6
      · simp only at h6
        exact .inr (.inl (Nat.le_trans hH.size h6))
      · exact .inr ((hmm y h6).2.2.symm)
  · rw [hag n (Nat.lt_of_lt_of_le hn hH.par.1)]
    exact hH.par.2 n hn
  · exact hG.T.names hok.1 hag rfl rfl rfl

theorem callK_sound {l : List Oper} {s : Spec} {x : s.A} {b : s.Bb} {σ : Ren} {h0 : Heap} {m' : Mem} {K : Out → St → Mem → Prop} {w' : World} {η2 : Names} {e : Ending} (h : callK s x σ st h0 m' K b) (he : e = (s.out x b).ends η2)
    (hb : ∀ h', (∀ k c, lookH h' k = some c → (∃ n c0, lookH (s.h2 x b) n = some c0 ∧ k = rn σ st.nx n ∧ ∀ η' η2 w, RnOk σ st.nx η' η2 → CkAt η2 w n c0 → CkAt η' w (rn σ st.nx n) c) ∨ lookH h0 k = some c) →
      ∃ η', RnOk σ st.nx η' η2 ∧ Good B l η' m' ⟨st.sz, st.t, st.gs, h', st.nx + s.nx2⟩ a w') :
    ∃ o η' st' m', K o st' m' ∧ Good B l η' m' st' a w' ∧ (match o with | .ret x => e = .returned (den η' x) | .pan x => e = .panicked [{ v := den η' x, recovered := false }]) := by
  obtain ⟨sz, t, gs, hp, nx⟩ := st
  simp only [callK, forceN_eq] at h
  split at h
  · rename_i y hy
    obtain ⟨y', h, hy'⟩ := rnV_sound h
    obtain ⟨h', h, hh⟩ := rnH_sound h
    obtain ⟨η', hrn, hG'⟩ := hb h' hh
    refine ⟨_, η', _, _, h, hG', ?_⟩
    rw [he, hy]
    simp only [Out.ends, (hy' η' η2 hrn).1]
  · rename_i y hy
    obtain ⟨y', h, hy'⟩ := rnV_sound h
    obtain ⟨h', h, hh⟩ := rnH_sound h
    obtain ⟨η', hrn, hG'⟩ := hb h' hh
    refine ⟨_, η', _, _, h, hG', ?_⟩
    rw [he, hy]
    simp only [Out.ends, (hy' η' η2 hrn).1]

theorem callS_sound {f : FuncId} {s : Spec} (hS : SpecOk P f s) {xs : List SV} {K : Out → St → Mem → Prop} (h : callS s xs st m K) {ops : List Oper} (hG : Good B ops η m st a w) :
    Calls P f (dent η xs).toArray w fun e w' => ∃ o η' st' m', K o st' m' ∧ Good B ops η' m' st' a w' ∧
      (match o with | .ret x => e = .returned (den η' x) | .pan x => e = .panicked [{ v := den η' x, recovered := false }]) := by
  obtain ⟨hcall, hspec⟩ := hS
  obtain ⟨sz, t, gs, hpp, nx⟩ := st
  obtain ⟨x, hR, h⟩ := h
  obtain ⟨σ1, h, he1, hd1⟩ := mtt_sound h
  obtain ⟨σ2, h, he2, hd2⟩ := mtH_sound h
  have hp := hd2 σ2 (.refl _)
  split at h
  case h_2 => exact h.elim
  rename_i hb
  simp only [Bool.and_eq_true] at hb
  obtain ⟨hJ, h⟩ := h
  obtain ⟨h0, h, h0l, _⟩ := delT_sound h
  have hargs := hd1 σ2 he2 η
  rw [← hargs]
  refine (hspec x hR _ _ w rfl rfl rfl rfl (hG.H.enter hp hJ)).mono fun e w' ⟨b, η2, hC, hH2, he⟩ => ?_
  have h := h b hC
  unfold Spec.J3 at hH2
  split at h
  · rename_i hx
    rw [hx] at hH2
    exact callK_sound h he fun h' hh => hG.back hp hb.1 hb.2 (fun _ _ h => h) (fun _ _ h => .inl h) h0l hH2 hh
  · rename_i hx
    rw [hx] at hH2
    have uni : ∀ y o, m y = some o → ∀ o', s.J2 x b y = some o' → o = o' := by
      intro y o hy o' hy'
      have h2 := hH2.imm y o' hy'
      obtain ⟨σ', hσ⟩ : ∃ σ', σ' = σ2 := ⟨_, rfl⟩
      have h1 : w'.heap[y]? = w.heap[y]? := by
        refine hH2.old y (heap_lt (hG.H.imm y o hy)) fun hm => ?_
        obtain ⟨n, d, hl, ho⟩ := modsOf_out hm
        rcases (hp.ck n d hl).2 with ⟨k, c, hf, hlk, _⟩ | ⟨A, e, z, hf, _⟩
        · rw [ηOf_nm hf] at ho
          rw [(hG.H.own k c y hlk ho).1] at hy
          cases hy
        · rw [ηOf_nil hf] at ho
          cases ho
      rw [h1, hG.H.imm y o hy] at h2
      cases h2
      rfl
    refine callK_sound (h (fun y => match m y with | some o => some o | none => s.J2 x b y) (fun y o hy => by simp only [hy]) (fun y o hy => ?_)) he fun h' hh => hG.back hp hb.1 hb.2 (J' := s.J2 x b) (fun y o hy => by simp only [hy]) (fun y o hy => ?_) h0l hH2 hh
    · cases hm : m y with
      | none => simp only [hy]
      | some o' => simp only [uni y o' hm o hy]
    · cases hm : m y with
      | some o' =>
        simp only [hm] at hy
        exact .inl hy
      | none =>
        simp only [hm] at hy
        refine .inr ⟨hy, ?_⟩
        cases hj : s.J x y with
        | none => rfl
        | some o' => rw [hJ y o' hj] at hm; cases hm

theorem callR_sound {f : FuncId} {s : Spec} (hS : SpecOk P f s) {xs : List SV} {K : Out → St → Mem → Prop} (h : callR s xs st m K) {ops : List Oper} (hG : Good B ops η m st a w) :
    Calls P f (dent η xs).toArray w fun e w' => ∃ o η' st' m', K o st' m' ∧ Good B ops η' m' st' a w' ∧
      (match o with | .ret x => e = .returned (den η' x) | .pan x => e = .panicked [{ v := den η' x, recovered := false }]) := by
  obtain ⟨hcall, hspec⟩ := hS
  obtain ⟨sz, t, gs, hpp, nx⟩ := st
  simp only [callR] at h
  obtain ⟨xs', st1, m1, h, hG1, _, hxs⟩ := sealXs_sound h hG
  split at h
  · exact h.elim
  rename_i hx
  obtain ⟨x, hR, h⟩ := h
  obtain ⟨σ1, h, he1, hd1⟩ := mtt_sound h
  split at h
  case h_2 => exact h.elim
  rename_i hh0 hb
  simp only [Bool.and_eq_true] at hb
  obtain ⟨hJ, h⟩ := h
  have none0 : ∀ h0 : Heap, HpOk s.nx [] (s.h x) h0 σ1 := by
    intro h0
    rw [hh0]
    obtain ⟨σ', hσ, _, hp⟩ := mtH_sound (K := fun σ => σ = σ1) (nx := s.nx) (h0 := h0) (h2 := []) (used := []) (σ := σ1) rfl
    subst hσ
    exact hp _ (.refl _)
  have hargs := hd1 σ1 (.refl _) η
  rw [← hxs, ← hargs]
  refine (hspec x hR _ _ w rfl rfl rfl rfl (hG1.H.enter (none0 st1.h) hJ)).mono fun e w' ⟨b, η2, hC, hH2, he⟩ => ?_
  have h := h b hC
  unfold Spec.J3 at hH2
  rw [hx] at hH2
  exact callK_sound h he fun h' hh => hG.back (none0 hpp) hb.1 hb.2 (fun _ _ h => h) (fun _ _ h => .inl h) (fun k c hl => ⟨hl, fun n d hn => by rw [hh0] at hn; cases hn⟩) hH2 hh

theorem sealD_sound {ops : List Oper} {K : List SV → St → Mem → Prop} : ∀ {l : List (Nat × Nat)} {xs : List SV} {st : St} {m : Mem}, sealD l xs st m K → Good B ops η m st a w →
    ∃ xs' st' m', K xs' st' m' ∧ Good B ops η m' st' a w ∧ dent η xs' = dent η xs
  | [], xs, st, m, h, hG => ⟨xs, st, m, h, hG, rfl⟩
  | (k, o) :: l, xs, st, m, h, hG => by
    simp only [sealD] at h
    split at h
    · split at h
      · obtain ⟨x, h, _⟩ := partAt_sound h
        split at h
        · obtain ⟨st1, m1, h, hG1⟩ := sealE_sound hG h
          obtain ⟨xs1, h, _, h1⟩ := sbVs_sound (η := η) rfl rfl h
          obtain ⟨xs2, st2, m2, hk, hg, h2⟩ := sealD_sound h hG1
          exact ⟨xs2, st2, m2, hk, hg, h2.trans h1⟩
        · exact sealD_sound h hG
      · exact sealD_sound h hG
    · exact sealD_sound h hG

theorem CPf_ok {S : List (Nat × Spec)} (hS : ∀ f s, findS S f = some s → SpecOk P f s) : CallsOk P (CPf S) := by
  intro f xs st m K h
  unfold CPf at h
  split at h
  · exact h.elim
  rename_i s hs
  have hok := hS f s hs
  refine ⟨hok.1, fun B ops η a w hG => ?_⟩
  obtain ⟨xs0, st0, m0, h, hG0, hxs0⟩ := sealD_sound h hG
  rw [← hxs0]
  split at h
  · exact callS_sound hok h hG0
  · exact callR_sound hok h hG0
  · obtain ⟨xs', st1, m1, h, hG1, _, hxs⟩ := sealXs_sound h hG0
    rw [← hxs]
    exact callS_sound hok h hG1
theorem CPs_ok {S : List (Nat × Spec)} (hS : ∀ f s, findS S f = some s → SpecOk P f s) : CPOk P (CPs S) := fun _ => ⟨CPf_ok hS, fun _ h => h.elim⟩
theorem CPm_ok {S : List (Nat × Spec)} (hS : ∀ f s, findS S f = some s → SpecOk P f s) (B : Base) : CPOkB P B (CPm S B.m0) := ⟨CPf_ok hS, fun _ h => h⟩
end
end Go.Proofs.Ytjpjiniclibgkaa.Sx

namespace Go.Proofs.Ytjpjiniclibgkaa.Sx
def TRow (P : Program) (p : TypeId × TI) : Prop := P.underlying p.1 = some p.2.d ∧ cl p.2.z = true ∧ (den η0 p.2.z).cells.size = p.2.size ∧ isG p.2.z = aggD p.2.d ∧
  (P.info? p.1).map (fun i => (i.size, i.bytes, i.zero)) = some (p.2.size, p.2.bytes, some (den η0 p.2.z)) ∧
  (p.2.q = true → P.stoodInHeld p.1 = false ∧ P.eqGuardType P.depth p.1 = false ∧ (match p.2.d with | .struct fs => fs.toList.all (fun f => f.name != "_") | _ => true) = true)
theorem TOk.of {P : Program} : ∀ {T : Tbl}, (∀ p ∈ T, TRow P p) → TOk P T
  | [], _ => fun _ _ h => by cases h
  | (u, i) :: r, h => fun t ti ht => by
    simp only [Tbl.at] at ht
    split at ht
    · rename_i hb
      obtain rfl := beq_eq hb
      cases ht
      obtain ⟨h1, h2, h3, h4, h5, h6⟩ := h (u, i) (.head _)
      refine ⟨h1, h2, h3, h4, ?_, fun hq => ⟨(h6 hq).1, (h6 hq).2.1, fun fs hd f hf => ?_⟩⟩
      · cases hi : P.info? u with
        | none => rw [hi] at h5; cases h5
        | some x =>
          rw [hi] at h5
          simp only [Option.map_some, Option.some.injEq, Prod.mk.injEq] at h5
          exact ⟨x, rfl, h5⟩
      · have h7 := (h6 hq).2.2
        rw [hd] at h7
        have := List.all_eq_true.1 h7 f hf
        simpa using this
    · exact TOk.of (fun p hp => h p (.tail _ hp)) t ti ht
/-- No region in no order is met. -/
def noDP : List Oper → St → Mem → (Ex → St → Mem → Prop) → Prop := fun _ _ _ _ => False
theorem noDP_ok {P : Program} (B : Base) : DPOk P B noDP := fun _ _ _ _ _ h => h.elim
end Go.Proofs.Ytjpjiniclibgkaa.Sx

namespace Go.Proofs.Ytjpjiniclibgkaa.Sx

/-- A run of operations that look at no more than memory. -/
def runQ (T : Tbl) (ops : List Oper) (m : Mem) (K : St → Prop) : List Oper → St → Prop
  | [], st => K st
  | o :: rest, st => byGuard ops o st
    (fun st => match o.op with
      | .pick c a b => pickV ops st [] c a b fun x => putS ops st o.dst [] x fun st => runQ T ops m K rest st
      | op => match isQuiet op with
        | true => quietV T st m [] op fun x => putS ops st o.dst [] x fun st => runQ T ops m K rest st
        | false => False)
    (fun st => runQ T ops m K rest st)
    fun st tg => match o.op with
      | .pick c a b => pickV ops st tg c a b fun x => putS ops st o.dst tg x fun st => runQ T ops m K rest st
      | op => match isQuiet op with
        | true => quietV T st m tg op fun x => putS ops st o.dst tg x fun st => runQ T ops m K rest st
        | false => False

/-- How many operations stand ahead of the first that is not quiet. -/
def headN : List Oper → Nat
  | [] => 0
  | o :: r => match o.op with
    | .pick .. => headN r + 1
    | op => match isQuiet op with
      | true => headN r + 1
      | false => 0

section
variable {P : Program} {T : Tbl} (hT : TOk P T) {B : Base} {η : Names} {m : Mem} {w : World}

theorem Good.drawn {l : List Oper} {st : St} {a : Act} (h : Good B l η m st a w) (d : Nat) : Good B l η m st a { w with drawn := d } :=
  ⟨⟨h.H.imm, fun n c hl => ⟨(h.H.ck n c hl).1, (h.H.ck n c hl).2.kept rfl (fun _ _ _ => rfl) (fun _ _ => rfl)⟩, h.H.own, h.H.apart, h.H.old, h.H.size, h.H.os, h.H.tape, h.H.output, h.H.mle, h.H.mnew, h.H.par⟩, h.T⟩

include hT in
theorem runQ_sound {ops : Array Oper} {K : St → Prop} {Q : Act → Prop} (hK : ∀ st a, K st → Good B ops.toList η m st a w → Q a) :
    ∀ {l : List Oper} {st : St} {a : Act}, runQ T ops.toList m K l st → Good B ops.toList η m st a w → wpStill P ops w Q l a
  | [], st, a, h, hG => hK _ _ h hG
  | o :: rest, st, a, h, hG => by
    simp only [runQ] at h
    have run : ∀ {K' : Act → Prop} {v : Value}, (execOp a.eval o).run P w = .ok (.value v) w → K' (a.put o.dst v) → o.still P a w K' := by
      intro K' v hr hk
      unfold Oper.still
      rw [hr]
      exact ⟨rfl, hk⟩
    rcases byGuard_sound h hG with ⟨hw, h⟩ | ⟨hw, st', h, hG'⟩ | ⟨st1, tag, h, hG1, hwant⟩
    · refine wpStill_step fun K' hK' => ?_
      rw [if_pos hw]
      have put : ∀ {x : SV}, (execOp a.eval o).run P w = .ok (.value (den η x)) w → (putS ops.toList st o.dst [] x fun st => runQ T ops.toList m K rest st) → o.still P a w K' := by
        intro x hr h
        obtain ⟨st', h, hG', _⟩ := putS_sound hG h (v := den η x) (by simp [tagB])
        exact run hr (hK' _ (runQ_sound hK h hG'))
      split at h
      · rename_i c x y ho
        obtain ⟨v, h, hv⟩ := pickV_sound (P := P) hG.T h ho
        exact put (hv w rfl) h
      · split at h
        · rename_i hq
          obtain ⟨x, h, hx⟩ := quietV_sound hT hG.T hq h
          exact put (hx w hG.H.hq rfl) h
        · exact h.elim
    · refine wpStill_step fun K' hK' => ?_
      rw [hw, if_neg (by decide)]
      exact hK' _ (runQ_sound hK h hG')
    · have fin : ∀ {x : SV}, (tagB st1.gs tag = true → (execOp a.eval o).run P w = .ok (.value (den η x)) w) → (putS ops.toList st1 o.dst tag x fun st => runQ T ops.toList m K rest st) → wpStill P ops w Q (o :: rest) a := by
        intro x hx h
        refine wpStill_step fun K' hK' => ?_
        obtain ⟨st', h, hG', _⟩ := putS_sound hG1 h rfl
        rw [hwant]
        cases ht : tagB st1.gs tag with
        | true =>
          rw [if_pos rfl]
          rw [ht, if_pos rfl] at hG'
          exact run (hx ht) (hK' _ (runQ_sound hK h hG'))
        | false =>
          rw [if_neg (by decide)]
          rw [ht, if_neg (by decide)] at hG'
          exact hK' _ (runQ_sound hK h hG')
      split at h
      · rename_i c x y ho
        obtain ⟨v, h, hv⟩ := pickV_sound (P := P) hG1.T h ho
        exact fin (hv w) h
      · split at h
        · rename_i hq
          obtain ⟨x, h, hx⟩ := quietV_sound hT hG1.T hq h
          exact fin (hx w hG1.H.hq) h
        · exact h.elim
end
end Go.Proofs.Ytjpjiniclibgkaa.Sx

namespace Go.Proofs.Ytjpjiniclibgkaa.Sx

def endR (lv : List Nat) (K : Ex → St → Mem → Prop) (st : St) (m : Mem) : Prop := clean lv [] st.t fun t => withT st t [] fun st => K .normal st m
/-- All quiet: the text's order stands for every order. Else the head in every order, and the tail as the text has it. -/
def DPq (T : Tbl) (CP : CallP) (lv : List Nat) : List Oper → St → Mem → (Ex → St → Mem → Prop) → Prop := fun ops st m K => match Nat.beq (headN ops) ops.length with
  | true => Region.lexB .any ops.toArray = true ∧ runQ T ops m (fun st => endR lv K st m) ops st
  | false => Region.lexTailB .any ops.toArray (headN ops) = true ∧ runQ T ops m (fun st => runL T CP ops (fun x st m => withT st [] [] fun st => K (.panic x) st m) (endR lv K) (ops.drop (headN ops)) (headN ops) st m) (ops.take (headN ops)) st

theorem DPq_okB {P : Program} {T : Tbl} (hT : TOk P T) (hm : P.follows .mixedOrders = true) {CP : CallP} {B : Base} (hCP : CPOkB P B CP) {lv : List Nat} : DPOk P B (DPq T CP lv) := by
  intro id ops st m K h η a w Q hG hK
  have hG' : Good B ops.toList η m st a { w with drawn := w.drawn + 1 } := (hG.any _).drawn _
  have fin : ∀ η st m a w, endR lv K st m → Good B ops.toList η m st a w → Q .normal a w := by
    intro η st m a w h hG
    obtain ⟨t, h, ht⟩ := clean_sound h
    obtain ⟨sz, t0, gs, hp, nx⟩ := st
    refine hK _ η _ _ _ _ h ⟨hG.H, ⟨hG.T.sz, hG.T.df, fun k tag x hl => ?_, fun j g tg hl => by cases hl⟩⟩
    obtain ⟨rfl, _, hl'⟩ := ht k tag x hl
    exact hG.T.sl k [] x hl'
  have harr : ops.toList.toArray = ops := by simp
  unfold DPq at h
  split at h
  · obtain ⟨hB, h⟩ := h
    rw [harr] at hB
    exact wp_region_still hm hB (runQ_sound hT (fun st a h hG => fin _ _ _ _ _ h hG) h hG')
  · obtain ⟨hB, h⟩ := h
    have := wp_region_still_tail (P := P) (id := id) (Q := Q) (a := a) (w := w) (l := ops.toList) (headN ops.toList) hm hB
    rw [harr] at this
    refine this (runQ_sound hT (fun st a h hG => runL_sound hT hCP (fun η st m a w h hG => fin _ _ _ _ _ h hG) (fun x η st m a w h hG => ?_) h hG) h hG')
    obtain ⟨sz, t0, gs, hp, nx⟩ := st
    exact hK _ η _ _ _ _ h hG.bare
end Go.Proofs.Ytjpjiniclibgkaa.Sx

namespace Go.Proofs.Ytjpjiniclibgkaa.Sx

def quietO (o : Oper) : Bool := match o.op with
  | .pick .. => true
  | op => isQuiet op
/-- What looks at no more than its operands and at whether a block is there at all. -/
def pureO : Op → Bool
  | .move _ => true
  | .assign _ => true
  | .nilCheck _ => true
  | .fieldAddr _ _ _ => true
  | _ => false
def nthO : List Oper → Nat → Option Oper
  | [], _ => none
  | o :: _, 0 => some o
  | _ :: r, n + 1 => nthO r n
def keepB (rest : List (Nat × Bool)) (j : Nat) : Bool := rest.any fun p => p.1 == j && p.2
/-- Which operations wait for i, directly or through others that are still to come. -/
def reachL (listed : Array Bool) (i : Nat) : List Oper → Nat → List Nat → List Nat
  | [], _, acc => acc
  | o :: r, k, acc => match o.after.any fun e => Region.binds .any e && (Nat.beq e.on i || (!(listed.getD e.on true) && memN e.on acc)) with
    | true => reachL listed i r (k + 1) (k :: acc)
    | false => reachL listed i r (k + 1) acc
/-- Whether this order stands for all. Of an operation that only looks, the mark says that it looks at no more than what stays; of another one, that it leaves what stays. -/
def schedB (ops : Array Oper) : List (Nat × Bool) → Bool → Array Bool → Bool
  | [], _, listed => (Region.ready .any ops listed).isEmpty
  | (i, b) :: rest, ok, listed => match ops[i]? with
    | none => false
    | some o => match quietO o with
      | true => (Region.ready .any ops listed).contains i && Region.free .any ops listed i && (pureO o.op || ((!b || ok) &&
        ((List.range ops.size).all fun j => j == i || listed.getD j true || memN j (reachL listed i ops.toList 0 []) || (match ops[j]? with
          | some oj => quietO oj || (b && keepB rest j)
          | none => true)))) && schedB ops rest ok (listed.setIfInBounds i true)
      | false => (Region.ready .any ops listed == [i]) && schedB ops rest (ok && b) (listed.setIfInBounds i true)
def nodupB : List (Nat × Bool) → Bool
  | [] => true
  | (i, _) :: r => r.all (fun p => !(p.1 == i)) && nodupB r
def orderB (ops : Array Oper) (sc : List (Nat × Bool)) : Bool := Region.noSelect ops && (sc.length == ops.size) && nodupB sc && schedB ops sc true (Array.replicate ops.size false)

/-- What stays is there. -/
def keepK : Heap → Heap → Prop → Prop
  | [], _, K => K
  | (n, c) :: r, h, K => (lookH h n = some c) ∧ keepK r h K
def keepIf (b : Bool) (hs h : Heap) (K : Prop) : Prop := match b with
  | true => keepK hs h K
  | false => K
def selH (h : Heap) : List Nat → (Heap → Prop) → Prop
  | [], K => K []
  | n :: r, K => match lookH h n with
    | some c => selH h r fun l => K ((n, c) :: l)
    | none => False

def lookV (T : Tbl) (b : Bool) (hs : Heap) (m0 : Mem) (st : St) (m : Mem) (tag : Tag) (op : Op) (K : SV → Prop) : Prop := match b with
  | true => (match st with | ⟨sz, t, gs, _, nx⟩ => quietV T ⟨sz, t, gs, hs, nx⟩ m0 tag op K)
  | false => quietV T st m tag op K

def runS (T : Tbl) (CP : CallP) (ops : List Oper) (hs : Heap) (m0 : Mem) (KP : SV → St → Mem → Prop) (K : St → Mem → Prop) : List (Nat × Bool) → St → Mem → Prop
  | [], st, m => K st m
  | (i, b) :: rest, st, m => match nthO ops i with
    | none => False
    | some o => byGuard ops o st
      (fun st => match o.op with
        | .pick c x y => pickV ops st [] c x y fun v => putS ops st o.dst [] v fun st => runS T CP ops hs m0 KP K rest st m
        | op => match isQuiet op with
          | true => lookV T (b && !(pureO op)) hs m0 st m [] op fun v => putS ops st o.dst [] v fun st => runS T CP ops hs m0 KP K rest st m
          | false => loudV T CP st m op (fun v st m => putS ops st o.dst [] v fun st => keepIf b hs st.h (runS T CP ops hs m0 KP K rest st m)) KP)
      (fun st => runS T CP ops hs m0 KP K rest st m)
      fun st tg => match o.op with
        | .pick c x y => pickV ops st tg c x y fun v => putS ops st o.dst tg v fun st => runS T CP ops hs m0 KP K rest st m
        | op => match isQuiet op with
          | true => lookV T (b && !(pureO op)) hs m0 st m tg op fun v => putS ops st o.dst tg v fun st => runS T CP ops hs m0 KP K rest st m
          | false => splitG ops o.dst (fun st m => loudV T CP st m op (fun v st m => putS ops st o.dst [] v fun st => keepIf b hs st.h (runS T CP ops hs m0 KP K rest st m)) KP) (fun st m => runS T CP ops hs m0 KP K rest st m) 9 tg st m

/-- A region in no order, by one order. -/
def DPs (T : Tbl) (CP : CallP) (lv : List Nat) : List Oper → St → Mem → (Ex → St → Mem → Prop) → Prop := fun ops st m K =>
  ∃ (ks : List Nat) (sc : List (Nat × Bool)), orderB ops.toArray sc = true ∧ (match okSt st with
    | true => selH st.h ks fun hs => runS T CP.still ops hs m (fun x st m => withT st [] [] fun st => K (.panic x) st m) (endR lv K) sc st m
    | false => False)
def DPx (T : Tbl) (CP : CallP) (lv : List Nat) : List Oper → St → Mem → (Ex → St → Mem → Prop) → Prop := fun ops st m K => DPq T CP lv ops st m K ∨ DPs T CP lv ops st m K

theorem nthO_get : ∀ {l : List Oper} {i : Nat} {o : Oper}, nthO l i = some o → l[i]? = some o
  | [], _, _, h => by cases h
  | _ :: _, 0, _, h => by simpa [nthO] using h
  | _ :: r, n + 1, o, h => by simpa [nthO] using nthO_get (l := r) h

section
variable {P : Program} {ops : Array Oper} {Q : Exit → Act → World → Prop} {Rel : Nat → World → World → Prop}

/-- Whatever order is picked from here on; each operation carried out turns the world as 'Rel' says. -/
def wpAnyR (P : Program) (ops : Array Oper) (Q : Exit → Act → World → Prop) (Rel : Nat → World → World → Prop) : Nat → Array Bool → Act → World → Prop
  | 0, listed, a, w => Region.ready .any ops listed = [] ∧ Q .normal a w
  | fuel + 1, listed, a, w =>
    (Region.ready .any ops listed = [] → Q .normal a w) ∧
    ∀ i ∈ Region.ready .any ops listed, wpOp P ops Q i (fun a' w' => Rel i w w' ∧ wpAnyR P ops Q Rel fuel (listed.setIfInBounds i true) a' w') a w

theorem wpAny_of_rel : ∀ (fuel : Nat) (listed : Array Bool) (a : Act) (w : World), wpAnyR P ops Q Rel fuel listed a w → wpAny P .any ops Q fuel listed a w
  | 0, _, _, _, h => h
  | fuel + 1, _, _, _, h => ⟨h.1, fun i hi => wpOp_mono (fun a' w' h' => wpAny_of_rel fuel _ a' w' h'.2) (h.2 i hi)⟩

inductive Waits (ops : Array Oper) (listed : Array Bool) (i : Nat) : Nat → Prop where
  | direct {j : Nat} {oj : Oper} {e : Edge} : ops[j]? = some oj → e ∈ oj.after → Region.binds .any e = true → e.on = i → Waits ops listed i j
  | step {j : Nat} {oj : Oper} {e : Edge} : ops[j]? = some oj → e ∈ oj.after → Region.binds .any e = true → listed.getD e.on true = false → Waits ops listed i e.on → Waits ops listed i j
theorem Waits.out {listed : Array Bool} {i j : Nat} {oj : Oper} (hj : ops[j]? = some oj) (h : Waits ops listed i j) :
    ∃ e ∈ oj.after, Region.binds .any e = true ∧ (e.on = i ∨ (listed.getD e.on true = false ∧ Waits ops listed i e.on)) := by
  cases h with
  | direct h1 h2 h3 h4 => rw [hj] at h1; cases h1; exact ⟨_, h2, h3, .inl h4⟩
  | step h1 h2 h3 h4 h5 => rw [hj] at h1; cases h1; exact ⟨_, h2, h3, .inr ⟨h4, h5⟩⟩
theorem memN_in {k : Nat} : ∀ {l : List Nat}, memN k l = true → k ∈ l
  | [], h => by cases h
  | n :: r, h => by
    simp only [memN] at h
    split at h
    · rename_i hb; obtain rfl := beq_eq hb; exact .head _
    · exact .tail _ (memN_in h)
theorem reachL_sound {listed : Array Bool} {i : Nat} : ∀ {l : List Oper} {k : Nat} {acc : List Nat}, (∀ j, l[j]? = ops[k + j]?) → (∀ j ∈ acc, Waits ops listed i j) → ∀ j ∈ reachL listed i l k acc, Waits ops listed i j
  | [], _, _, _, ha, j, hj => ha j hj
  | o :: r, k, acc, hl, ha, j, hj => by
    have hl' : ∀ j, r[j]? = ops[k + 1 + j]? := fun j => by
      have := hl (j + 1)
      rw [List.getElem?_cons_succ] at this
      rw [this, show k + (j + 1) = k + 1 + j by omega]
    simp only [reachL] at hj
    split at hj
    · rename_i hany
      refine reachL_sound hl' (fun j hj => ?_) j hj
      rcases List.mem_cons.1 hj with rfl | hj
      · have hok : ops[j]? = some o := by have := hl 0; simpa using this.symm
        obtain ⟨x, hx, hp⟩ := Array.any_eq_true.1 hany
        simp only [Bool.and_eq_true, Bool.or_eq_true, Bool.not_eq_true'] at hp
        obtain ⟨h1, h2 | ⟨h2, h3⟩⟩ := hp
        · exact .direct hok (Array.getElem_mem _) h1 (beq_eq h2)
        · exact .step hok (Array.getElem_mem _) h1 h2 (ha _ (memN_in h3))
      · exact ha j hj
    · exact reachL_sound hl' ha j hj

theorem wpAnyR_first {i : Nat} {oi : Oper} {v : Value} {S : World → Prop} (hi : ops[i]? = some oi) (hsel : ∀ (j : Nat) (o : Oper) cs b, ops[j]? = some o → o.op ≠ .select cs b)
    (hQ : ∀ c a w, Q (.panic c) (a.put oi.dst v) w → Q (.panic c) a w) (hrel : ∀ w, Rel i w w)
    {tw : Nat → Prop} (htw : ∀ j oj, ops[j]? = some oj → tw j → ∃ e ∈ oj.after, Region.binds .any e = true ∧ (e.on = i ∨ tw e.on)) :
    ∀ (fuel : Nat) (listed : Array Bool) (a : Act) (w : World), (∀ j, tw j → listed.getD j true = false) →
      (∀ j oj, ops[j]? = some oj → j ≠ i → listed.getD j true = false → (∀ e ∈ oj.after, Region.binds .any e = true → e.on ≠ i) → oi.apart ops oj = true ∧ (¬ tw j → ∀ w w', S w → Rel j w w' → S w')) →
      i ∈ Region.ready .any ops listed → YieldsIf P ops S oi v a → S w →
      wpAnyR P ops Q Rel fuel (listed.setIfInBounds i true) (a.put oi.dst v) w → wpAnyR P ops Q Rel (fuel + 1) listed a w := by
  intro fuel
  induction fuel with
  | zero =>
    intro listed a w _ _ hr hy hS H
    refine ⟨fun h => (by rw [h] at hr; cases hr), fun j hj => ?_⟩
    by_cases hji : j = i
    · subst hji; exact hy.wpOp hi hS ⟨hrel w, H⟩
    · have := ready_mono hj hji
      rw [H.1] at this
      cases this
  | succ fuel ih =>
    intro listed a w hun hfree hr hy hS H
    refine ⟨fun h => (by rw [h] at hr; cases hr), fun j hj => ?_⟩
    by_cases hji : j = i
    · subst hji; exact hy.wpOp hi hS ⟨hrel w, H⟩
    · have h1 := H.2 j (ready_mono hj hji)
      obtain ⟨hjun, oj, hoj, hall⟩ := mem_ready.1 hj
      have hnot : ∀ e ∈ oj.after, Region.binds .any e = true → e.on ≠ i := fun e he hb heq => by
        have h1 := hall e he hb
        have h0 := (mem_ready.1 hr).1
        rw [heq] at h1
        rcases Nat.lt_or_ge i listed.size with h' | h'
        · simp [h'] at h0 h1; rw [h0] at h1; cases h1
        · simp [Array.getElem?_eq_none h'] at h1
      have hntw : ¬ tw j := fun ht => by
        obtain ⟨e, he, hb, h1 | h1⟩ := htw j oj hoj ht
        · exact hnot e he hb h1
        · have h2 := hall e he hb
          have h0 := hun _ h1
          rcases Nat.lt_or_ge e.on listed.size with h' | h'
          · simp [h'] at h0 h2; rw [h0] at h2; cases h2
          · simp [Array.getElem?_eq_none h'] at h2
      obtain ⟨hap, hS'⟩ := hfree j oj hoj hji hjun hnot
      have hS' := hS' hntw
      have hun' : ∀ k, tw k → (listed.setIfInBounds j true).getD k true = false := fun k hk => by
        have hjk : j ≠ k := fun e => hntw (e ▸ hk)
        rw [getD_set_ne true hjk]
        exact hun k hk
      have h2 := wpOp_putIf hoj hap (fun cs b => hsel i oi cs b hi) (fun cs b => hsel j oj cs b hoj) hQ hy h1
      have hfree' : ∀ k ok, ops[k]? = some ok → k ≠ i → (listed.setIfInBounds j true).getD k true = false →
          (∀ e ∈ ok.after, Region.binds .any e = true → e.on ≠ i) → oi.apart ops ok = true ∧ (¬ tw k → ∀ w w', S w → Rel k w w' → S w') := fun k ok hk hki hun hno => by
        refine hfree k ok hk hki ?_ hno
        by_cases hjk : j = k
        · subst hjk; exact hjun
        · rw [getD_set_ne true hjk] at hun; exact hun
      refine wpOp_mono (fun a' w' h3 => ⟨h3.2.1, ih (listed.setIfInBounds j true) a' w' hun' hfree' (ready_mono hr (Ne.symm hji)) h3.1 (hS' _ _ hS h3.2.1) ?_⟩) h2
      rw [Array.setIfInBounds_comm _ _ hji]
      exact h3.2.2
end

section
variable {P : Program} {T : Tbl} (hT : TOk P T) {B : Base}

theorem selH_sound {h : Heap} {K : Heap → Prop} : ∀ {ks : List Nat}, selH h ks K → ∃ hs, K hs ∧ ∀ n c, lookH hs n = some c → lookH h n = some c
  | [], hk => ⟨[], hk, fun _ _ h => by cases h⟩
  | n :: r, hk => by
    simp only [selH] at hk
    split at hk
    · rename_i c hc
      obtain ⟨hs, hk, hl⟩ := selH_sound hk
      refine ⟨_, hk, fun k d hd => ?_⟩
      simp only [lookH] at hd
      split at hd
      · rename_i hb
        obtain rfl := beq_eq hb
        cases hd
        exact hc
      · exact hl k d hd
    · exact hk.elim
theorem keepK_sound {h : Heap} {K : Prop} : ∀ {hs : Heap}, keepK hs h K → K ∧ ∀ n c, lookH hs n = some c → lookH h n = some c
  | [], hk => ⟨hk, fun _ _ h => by cases h⟩
  | (n, c) :: r, hk => by
    obtain ⟨h1, h2⟩ := hk
    obtain ⟨h3, h4⟩ := keepK_sound h2
    refine ⟨h3, fun k d hd => ?_⟩
    simp only [lookH] at hd
    split at hd
    · rename_i hb
      obtain rfl := beq_eq hb
      cases hd
      exact h1
    · exact h4 k d hd

/-- What stays, told with the names of the beginning, and with later ones. -/
theorem HQ.names {η η' : Names} {m : Mem} {hs : Heap} {nx : Nat} {w : World} (h : HQ η m hs w) (hok : ∀ n c, lookH hs n = some c → n < nx ∧ okC nx c = true) (hag : Agree nx η η') : HQ η' m hs w :=
  ⟨h.imm, fun n c hl => ⟨trivial, (h.ck n c hl).2.kept (hag n (hok n c hl).1) (fun e cs hcs => by
    have := (hok n c hl).2
    subst hcs
    exact dens_ok hag cs this) (fun _ _ => rfl)⟩⟩

def relS (ops : Array Oper) (sc : List (Nat × Bool)) (S : World → Prop) (j : Nat) (w w' : World) : Prop := match ops[j]? with
  | some o => match quietO o with
    | true => w' = w
    | false => match keepB sc j with
      | true => S w → S w'
      | false => True
  | none => True

/-- What a look rests on: what stays, or the world as it is. -/
def upon (b : Bool) (S : World → Prop) (w w' : World) : Prop := match b with
  | true => S w'
  | false => w' = w

include hT in
theorem lookV_sound {b : Bool} {hs : Heap} (hok : ∀ n c, lookH hs n = some c → n < B.k0 ∧ okC B.k0 c = true) {l : List Oper} {η : Names} {st : St} {m : Mem} {a : Act} {w : World} {tag : Tag} {o : Oper} {K : SV → Prop}
    (hq : isQuiet o.op = true) (h : lookV T b hs B.m0 st m tag o.op K) (hG : Good B l η m st a w) :
    ∃ x, K x ∧ ∀ w', upon b (HQ B.η0 B.m0 hs) w w' → tagB st.gs tag = true → (execOp a.eval o).run P w' = .ok (.value (den η x)) w' := by
  unfold lookV at h
  split at h
  · obtain ⟨sz, t, gs, hp, nx⟩ := st
    have ht : HoldT l η ⟨sz, t, gs, hs, nx⟩ a := ⟨hG.T.sz, hG.T.df, hG.T.sl, hG.T.gs⟩
    obtain ⟨x, hk, hx⟩ := quietV_sound hT ht hq h
    exact ⟨x, hk, fun w' hS => hx w' (HQ.names hS hok fun n hn => hG.H.par.2 n hn)⟩
  · obtain ⟨x, hk, hx⟩ := quietV_sound hT hG.T hq h
    exact ⟨x, hk, fun w' hS => by
      have hS : w' = w := hS
      subst hS
      exact hx _ hG.H.hq⟩

include hT in
theorem pureV_sound {l : List Oper} {η : Names} {st : St} {m : Mem} {a : Act} {w0 : World} {tag : Tag} {o : Oper} {K : SV → Prop} (ht : HoldT l η st a) (hH : HQ η m st.h w0)
    (hp : pureO o.op = true) (h : quietV T st m tag o.op K) : ∃ x, K x ∧ ∀ w' : World, tagB st.gs tag = true → (execOp a.eval o).run P w' = .ok (.value (den η x)) w' := by
  have hC : ∀ c, gc st.gs tag c → tagB st.gs tag = true → c := fun c h => gc_out h
  obtain ⟨dst, op, ty, pos, after, guard⟩ := o
  cases op <;> first | (cases hp; done) | skip
  case move x =>
    obtain ⟨v, hl, hv⟩ := argAt_sound ht h
    exact ⟨v, hl, fun w htag => by simp only [execOp, hv htag, Sem.run_pure]⟩
  case assign x =>
    obtain ⟨v, hl, hv⟩ := argAt_sound ht h
    exact ⟨v, hl, fun w htag => by simp only [execOp, hv htag, Sem.run_pure]⟩
  case nilCheck x =>
    obtain ⟨v, hl, hv⟩ := argAt_sound ht h
    split at hl
    · obtain ⟨hk, hb⟩ := live_sound (η := η) (m := m) hC hl
      refine ⟨_, hk, fun w htag => ?_⟩
      obtain ⟨b, hA⟩ := hb w0 hH htag
      simp only [execOp, hv htag, den, hA, Option.map_some]
      rfl
    · refine ⟨_, hl.2, fun w htag => ?_⟩
      obtain ⟨ad, rfl⟩ := Option.isSome_iff_exists.1 (hC _ hl.1 htag)
      simp only [execOp, hv htag, den, Option.map_some]
      rfl
    · exact hl.elim
  case fieldAddr t x f =>
    obtain ⟨v, hl, hv⟩ := argAt_sound ht h
    have key : ∃ r, K r ∧ ∀ w : World, tagB st.gs tag = true → (Instr.fieldAt t (den η v) f).run P w = .ok (den η r) w := by
      unfold fieldAddrV at hl
      split at hl
      · rename_i ti hti
        split at hl
        · rename_i fs hd
          split at hl
          · rename_i fl hf
            split at hl
            · rename_i tf htf
              split at hl
              · exact hl.elim
              · rename_i k hsz
                split at hl
                · obtain ⟨hk, hb⟩ := live_sound (η := η) (m := m) hC hl
                  refine ⟨_, hk, fun w ht => ?_⟩
                  obtain ⟨b, hA⟩ := hb w0 hH ht
                  simp only [den, hA, Option.map_some]
                  rw [run_fieldAt hT hti hd hf htf hsz, add_add]
                · refine ⟨_, hl.2, fun w ht => ?_⟩
                  have hA := hC _ hl.1 ht
                  rename_i A o
                  obtain ⟨a, rfl⟩ := Option.isSome_iff_exists.1 hA
                  simp only [den, Option.map_some]
                  rw [run_fieldAt hT hti hd hf htf hsz, add_add]
                · exact hl.elim
            · exact hl.elim
          · exact hl.elim
        · exact hl.elim
      · exact hl.elim
    obtain ⟨r, hk, hr⟩ := key
    exact ⟨r, hk, fun w htag => by simp only [execOp, hv htag, Sem.run_bind, hr w htag, Result.andThen_ok]; rfl⟩
/-- What a look of this kind rests on. -/
def uponO (o : Oper) (b : Bool) (S : World → Prop) (w w' : World) : Prop := pureO o.op = false → upon b S w w'
include hT in
theorem lookO_sound {b : Bool} {hs : Heap} (hok : ∀ n c, lookH hs n = some c → n < B.k0 ∧ okC B.k0 c = true) {l : List Oper} {η : Names} {st : St} {m : Mem} {a : Act} {w : World} {tag : Tag} {o : Oper} {K : SV → Prop}
    (hq : isQuiet o.op = true) (h : lookV T (b && !(pureO o.op)) hs B.m0 st m tag o.op K) (hG : Good B l η m st a w) :
    ∃ x, K x ∧ ∀ w', uponO o b (HQ B.η0 B.m0 hs) w w' → tagB st.gs tag = true → (execOp a.eval o).run P w' = .ok (.value (den η x)) w' := by
  cases hp : pureO o.op with
  | true =>
    rw [hp, Bool.not_true, Bool.and_false] at h
    obtain ⟨x, hk, hx⟩ := pureV_sound (P := P) hT hG.T hG.H.hq hp h
    exact ⟨x, hk, fun w' _ => hx w'⟩
  | false =>
    rw [hp, Bool.not_false, Bool.and_true] at h
    obtain ⟨x, hk, hx⟩ := lookV_sound (P := P) hT hok hq h hG
    exact ⟨x, hk, fun w' hS => hx w' (hS hp)⟩

theorem keepB_mem {l : List (Nat × Bool)} {j : Nat} (h : keepB l j = true) : (j, true) ∈ l := by
  unfold keepB at h
  obtain ⟨p, hp, hb⟩ := List.any_eq_true.1 h
  simp only [Bool.and_eq_true, beq_iff_eq] at hb
  obtain ⟨p1, p2⟩ := p
  obtain ⟨rfl, rfl⟩ := hb
  exact hp
theorem keepB_of {l : List (Nat × Bool)} {j : Nat} (h : (j, true) ∈ l) : keepB l j = true := by
  unfold keepB
  exact List.any_eq_true.2 ⟨_, h, by simp⟩
theorem nodupB_eq : ∀ {l : List (Nat × Bool)} {i : Nat} {b c : Bool}, nodupB l = true → (i, b) ∈ l → (i, c) ∈ l → b = c
  | [], _, _, _, _, h, _ => by cases h
  | (k, d) :: r, i, b, c, hn, h1, h2 => by
    simp only [nodupB, Bool.and_eq_true, List.all_eq_true] at hn
    rcases List.mem_cons.1 h1 with h1 | h1 <;> rcases List.mem_cons.1 h2 with h2 | h2
    · cases h1; cases h2; rfl
    · cases h1
      have := hn.1 _ h2
      simp at this
    · cases h2
      have := hn.1 _ h1
      simp at this
    · exact nodupB_eq hn.2 h1 h2

include hT in
theorem runS_sound {CP : CallP} (hCP : CPOkB P B CP) {ops : Array Oper} {KP : SV → St → Mem → Prop} {K : St → Mem → Prop} {Q : Exit → Act → World → Prop} {hs : Heap} {sc : List (Nat × Bool)}
    (hok : ∀ n c, lookH hs n = some c → n < B.k0 ∧ okC B.k0 c = true)
    (hK : ∀ η st m a w, K st m → Good B ops.toList η m st a w → Q .normal a w)
    (hKP : ∀ x η st m a w, KP x st m → Good B ops.toList η m st a w → Q (.panic [{ v := den η x, recovered := false }]) a w)
    (hsel : ∀ (j : Nat) (o : Oper) cs b, ops[j]? = some o → o.op ≠ .select cs b) (hQ : ∀ c (a : Act) (d : Option Tmp) (v : Value) w, Q (.panic c) (a.put d v) w → Q (.panic c) a w) (hnd : nodupB sc = true) :
    ∀ {l : List (Nat × Bool)} {ok : Bool} {listed : Array Bool} {η : Names} {st : St} {m : Mem} {a : Act} {w : World} {fuel : Nat}, schedB ops l ok listed = true → (∀ p ∈ l, p ∈ sc) → l.length ≤ fuel →
      runS T CP ops.toList hs B.m0 KP K l st m → Good B ops.toList η m st a w → (ok = true → HQ B.η0 B.m0 hs w) → wpAnyR P ops Q (relS ops sc (HQ B.η0 B.m0 hs)) fuel listed a w
  | [], ok, listed, η, st, m, a, w, fuel, hB, _, _, h, hG, _ => by
    simp only [schedB, List.isEmpty_iff] at hB
    cases fuel with
    | zero => exact ⟨hB, hK _ _ _ _ _ h hG⟩
    | succ f => exact ⟨fun _ => hK _ _ _ _ _ h hG, by rw [hB]; simp⟩
  | (i, b) :: rest, ok, listed, η, st, m, a, w, 0, _, _, hf, _, _, _ => by simp at hf
  | (i, b) :: rest, ok, listed, η, st, m, a, w, f + 1, hB, hsub, hf, h, hG, hS => by
    have hf' : rest.length ≤ f := by simpa using hf
    have hsub' : ∀ p ∈ rest, p ∈ sc := fun p hp => hsub p (.tail _ hp)
    have hib : (i, b) ∈ sc := hsub _ (.head _)
    simp only [runS] at h
    split at h
    case h_1 => exact h.elim
    rename_i o hno
    have ho : ops[i]? = some o := by have := nthO_get hno; simpa using this
    simp only [schedB, ho] at hB
    -- an operation that only looks is taken first
    have quiet : ∀ {v : Value}, quietO o = true → YieldsIf P ops (uponO o b (HQ B.η0 B.m0 hs) w) o v a → (schedB ops rest ok (listed.setIfInBounds i true) = true → wpAnyR P ops Q (relS ops sc (HQ B.η0 B.m0 hs)) f (listed.setIfInBounds i true) (a.put o.dst v) w) →
        wpAnyR P ops Q (relS ops sc (HQ B.η0 B.m0 hs)) (f + 1) listed a w := by
      intro v hq hy hnext
      rw [hq] at hB
      simp only [Bool.and_eq_true] at hB
      obtain ⟨⟨⟨hr, hfr⟩, hpall⟩, hB'⟩ := hB
      refine wpAnyR_first (S := uponO o b (HQ B.η0 B.m0 hs) w) ho hsel (fun c a w => hQ c a _ _ w) (fun w => by simp only [relS, ho, hq]) (tw := fun j => listed.getD j true = false ∧ Waits ops listed i j) (fun j oj hj ht => Waits.out hj ht.2) f listed a w (fun j hj => hj.1) (fun j oj hj hne hun hno' => ⟨Region.free_spec ho hfr j oj hj hne hun hno', fun hntw w1 w2 hS1 hrel => ?_⟩) (by simpa using hr) hy ?_ (hnext hB')
      · intro hp
        have hS1 := hS1 hp
        rw [hp] at hpall
        simp only [Bool.false_or, Bool.and_eq_true] at hpall
        have hall := hpall.2
        have hjs : j < ops.size := (Array.getElem?_eq_some_iff.1 hj).1
        have hw : memN j (reachL listed i ops.toList 0 []) = false := by
          cases hw : memN j (reachL listed i ops.toList 0 []) with
          | false => rfl
          | true => exact absurd ⟨hun, reachL_sound (fun j => by simp) (fun _ h => by cases h) j (memN_in hw)⟩ hntw
        have h1 := List.all_eq_true.1 hall j (List.mem_range.2 hjs)
        simp only [hw, hj, hun, Bool.or_false, Bool.or_eq_true, beq_iff_eq, hne, false_or, Bool.and_eq_true] at h1
        rcases h1 with h1 | ⟨hb, hkb⟩
        · simp only [relS, hj, h1] at hrel
          subst hrel
          exact hS1
        · subst hb
          simp only [relS, hj] at hrel
          split at hrel
          · subst hrel; exact hS1
          · rw [keepB_of (hsub' _ (keepB_mem hkb))] at hrel
            exact hrel hS1
      · intro hp
        rw [hp] at hpall
        simp only [Bool.false_or, Bool.and_eq_true] at hpall
        cases b with
        | false => rfl
        | true => exact hS (by simpa using hpall.1)
    -- another operation comes alone
    have loud : quietO o = false → (schedB ops rest (ok && b) (listed.setIfInBounds i true) = true → wpOp P ops Q i (fun a' w' => relS ops sc (HQ B.η0 B.m0 hs) i w w' ∧ wpAnyR P ops Q (relS ops sc (HQ B.η0 B.m0 hs)) f (listed.setIfInBounds i true) a' w') a w) →
        wpAnyR P ops Q (relS ops sc (HQ B.η0 B.m0 hs)) (f + 1) listed a w := by
      intro hq hnext
      rw [hq] at hB
      simp only [Bool.and_eq_true, beq_iff_eq] at hB
      refine ⟨fun h0 => (by rw [hB.1] at h0; cases h0), fun j hj => ?_⟩
      rw [hB.1] at hj
      simp only [List.mem_singleton] at hj
      subst hj
      exact hnext hB.2
    have relI : ∀ w', quietO o = false → (b = true → HQ B.η0 B.m0 hs w → HQ B.η0 B.m0 hs w') → relS ops sc (HQ B.η0 B.m0 hs) i w w' := by
      intro w' hq hw
      simp only [relS, ho, hq]
      split
      · rename_i hkb
        exact hw (nodupB_eq hnd hib (keepB_mem hkb))
      · trivial
    have behind : ∀ {η' : Names} {st' : St} {m' : Mem} {a' : Act} {w' : World}, quietO o = false → schedB ops rest (ok && b) (listed.setIfInBounds i true) = true → keepIf b hs st'.h (runS T CP ops.toList hs B.m0 KP K rest st' m') → Good B ops.toList η' m' st' a' w' →
        relS ops sc (HQ B.η0 B.m0 hs) i w w' ∧ wpAnyR P ops Q (relS ops sc (HQ B.η0 B.m0 hs)) f (listed.setIfInBounds i true) a' w' := by
      intro η' st' m' a' w' hq hB' hk hG'
      cases b with
      | false => exact ⟨relI w' hq (fun h => by cases h), runS_sound hCP hok hK hKP hsel hQ hnd hB' hsub' hf' hk hG' (fun h => by simp at h)⟩
      | true =>
        obtain ⟨hk, hl⟩ := keepK_sound hk
        have hS' : HQ B.η0 B.m0 hs w' := by
          refine HQ.names (η := η') ⟨fun x o hx => hG'.H.imm x o (hG'.H.mle x o hx), fun n c hn => ⟨trivial, (hG'.H.ck n c (hl n c hn)).2⟩⟩ hok fun n hn => (hG'.H.par.2 n hn).symm
        exact ⟨relI w' hq (fun _ _ => hS'), runS_sound hCP hok hK hKP hsel hQ hnd hB' hsub' hf' hk hG' (fun _ => hS')⟩
    have hqo : ∀ {op : Op}, o.op = op → (∀ c x y, op ≠ .pick c x y) → quietO o = isQuiet op := by
      intro op hop hnp
      unfold quietO
      rw [hop]
      split
      · exact absurd rfl (hnp _ _ _)
      · rfl
    have hqp : ∀ {c x y}, o.op = .pick c x y → quietO o = true := by
      intro c x y hop
      unfold quietO
      rw [hop]
    rcases byGuard_sound h hG with ⟨hw, h⟩ | ⟨hw, st', h, hG'⟩ | ⟨st1, tag, h, hG1, hwant⟩
    · split at h
      · rename_i c x y hop
        obtain ⟨v, h, hv⟩ := pickV_sound (P := P) hG.T h hop
        obtain ⟨st', h, hG', _⟩ := putS_sound hG h (v := den η v) (by simp [tagB])
        exact quiet (hqp hop) (.inl ⟨hw, fun w' _ => hv w' rfl⟩) fun hB' => runS_sound hCP hok hK hKP hsel hQ hnd hB' hsub' hf' h hG' hS
      · rename_i op hnp
        split at h
        · rename_i hq
          obtain ⟨v, h, hv⟩ := lookO_sound hT hok hq h hG
          obtain ⟨st', h, hG', _⟩ := putS_sound hG h (v := den η v) (by simp [tagB])
          exact quiet ((hqo rfl hnp).trans hq) (.inl ⟨hw, fun w' hS' => hv w' hS' rfl⟩) fun hB' => runS_sound hCP hok hK hKP hsel hQ hnd hB' hsub' hf' h hG' hS
        · rename_i hq
          have hq' : quietO o = false := (hqo rfl hnp).trans hq
          refine loud hq' fun hB' => ?_
          unfold wpOp
          simp only [ho, hw, if_true]
          refine .inl (loudV_sound hT hG hCP h (fun x η' st' m' w' hk hg => ?_) (fun x η' st' m' w' hk hg => hKP _ _ _ _ _ _ hk hg))
          obtain ⟨st'', h, hG', _⟩ := putS_sound hg hk (v := den η' x) (by simp [tagB])
          exact behind hq' hB' h hG'
    · cases hq : quietO o with
      | true => exact quiet (v := undef) hq (.inr ⟨hw, rfl⟩) fun hB' => runS_sound hCP hok hK hKP hsel hQ hnd hB' hsub' hf' h hG' hS
      | false =>
        refine loud hq fun hB' => ?_
        unfold wpOp
        simp only [ho, hw]
        simp only [Bool.false_eq_true, if_false]
        exact ⟨relI w hq (fun _ h => h), runS_sound hCP hok hK hKP hsel hQ hnd hB' hsub' hf' h hG' (fun hb => hS (by simp only [Bool.and_eq_true] at hb; exact hb.1))⟩
    · have fin : ∀ {x : SV}, quietO o = true → (∀ w', uponO o b (HQ B.η0 B.m0 hs) w w' → tagB st1.gs tag = true → (execOp a.eval o).run P w' = .ok (.value (den η x)) w') →
          (putS ops.toList st1 o.dst tag x fun st => runS T CP ops.toList hs B.m0 KP K rest st m) → wpAnyR P ops Q (relS ops sc (HQ B.η0 B.m0 hs)) (f + 1) listed a w := by
        intro x hq hx h
        obtain ⟨st', h, hG', _⟩ := putS_sound hG1 h rfl
        cases ht : tagB st1.gs tag with
        | true =>
          rw [ht, if_pos rfl] at hG'
          exact quiet hq (.inl ⟨by rw [hwant, ht], fun w' hS' => hx w' hS' ht⟩) fun hB' => runS_sound hCP hok hK hKP hsel hQ hnd hB' hsub' hf' h hG' hS
        | false =>
          rw [ht, if_neg (by decide)] at hG'
          exact quiet hq (.inr ⟨by rw [hwant, ht], rfl⟩) fun hB' => runS_sound hCP hok hK hKP hsel hQ hnd hB' hsub' hf' h hG' hS
      split at h
      · rename_i c x y hop
        obtain ⟨v, h, hv⟩ := pickV_sound (P := P) hG1.T h hop
        exact fin (hqp hop) (fun w' _ => hv w') h
      · rename_i op hnp
        split at h
        · rename_i hq
          obtain ⟨v, h, hv⟩ := lookO_sound hT hok hq h hG1
          exact fin ((hqo rfl hnp).trans hq) hv h
        · rename_i hq
          have hq' : quietO o = false := (hqo rfl hnp).trans hq
          obtain ⟨hgo, hskip⟩ := splitG_sound h hG1
          refine loud hq' fun hB' => ?_
          unfold wpOp
          simp only [ho, hwant]
          cases ht : tagB st1.gs tag with
          | true =>
            simp only [if_true]
            obtain ⟨st2, h, hG2⟩ := hgo ht
            refine .inl (loudV_sound hT hG2 hCP h (fun x η' st' m' w' hk hg => ?_) (fun x η' st' m' w' hk hg => hKP _ _ _ _ _ _ hk hg))
            obtain ⟨st'', h, hG', _⟩ := putS_sound hg hk (v := den η' x) (by simp [tagB])
            exact behind hq' hB' h hG'
          | false =>
            simp only [Bool.false_eq_true, if_false]
            obtain ⟨st2, h, hG2⟩ := hskip ht
            exact ⟨relI w hq' (fun _ h => h), runS_sound hCP hok hK hKP hsel hQ hnd hB' hsub' hf' h hG2 (fun hb => hS (by simp only [Bool.and_eq_true] at hb; exact hb.1))⟩

theorem DPs_ok (hT : TOk P T) (hm : P.follows .mixedOrders = true) {CP : CallP} (hCP : CallsOk P CP.c) {lv : List Nat} (B : Base) : DPOk P B (DPs T CP lv) := by
  intro id ops st m K h η a w Q hG hK
  obtain ⟨ks, sc, hB, h⟩ := h
  rw [Array.toArray_toList] at hB
  simp only [orderB, Bool.and_eq_true, beq_iff_eq] at hB
  obtain ⟨⟨⟨hns, hlen⟩, hnd⟩, hsch⟩ := hB
  split at h
  case h_2 => exact h.elim
  rename_i hokst
  simp only [okSt, Bool.and_eq_true] at hokst
  obtain ⟨hs, h, hsel⟩ := selH_sound h
  -- the same, with this moment as the beginning
  have rebase : ∀ {l : List Oper} {η' : Names} {m' : Mem} {st' : St} {a' : Act} {w' : World}, Good ⟨B.w0, B.mods, m, st.nx, η⟩ l η' m' st' a' w' → Good B l η' m' st' a' w' := by
    intro l η' m' st' a' w' hG'
    have hH := hG'.H
    refine ⟨⟨hH.imm, hH.ck, hH.own, hH.apart, hH.old, hH.size, hH.os, hH.tape, hH.output, fun x o hx => hH.mle x o (hG.H.mle x o hx), fun x o hx => ?_, ⟨Nat.le_trans hG.H.par.1 hH.par.1, fun n hn => (hH.par.2 n (Nat.lt_of_lt_of_le hn hG.H.par.1)).trans (hG.H.par.2 n hn)⟩⟩, hG'.T⟩
    rcases hH.mnew x o hx with h1 | h1
    · exact hG.H.mnew x o h1
    · exact .inr h1
  have hG0 : Good ⟨B.w0, B.mods, m, st.nx, η⟩ ops.toList η m st a { w with drawn := w.drawn + 1 } := by
    have hG' := (hG.any ops.toList).drawn (w.drawn + 1)
    have hH := hG'.H
    exact ⟨⟨hH.imm, hH.ck, hH.own, hH.apart, hH.old, hH.size, hH.os, hH.tape, hH.output, fun _ _ h => h, fun _ _ h => .inl h, ⟨Nat.le_refl _, fun _ _ => rfl⟩⟩, hG'.T⟩
  have hok : ∀ n c, lookH hs n = some c → n < st.nx ∧ okC st.nx c = true := fun n c hl => okH_look hokst.2 (hsel n c hl)
  -- a panic is left with no slot known
  let Q' : Exit → Act → World → Prop := fun e a w => match e with
    | .panic c => ∃ (x : SV) (η' : Names) (st' : St) (m' : Mem), c = [{ v := den η' x, recovered := false }] ∧ K (.panic x) ⟨st'.sz, [], [], st'.h, st'.nx⟩ m' ∧ Good B [] η' m' ⟨st'.sz, [], [], st'.h, st'.nx⟩ a w
    | e => Q e a w
  have hQQ : ∀ e a w, Q' e a w → Q e a w := by
    intro e a w hq
    cases e with
    | panic c =>
      obtain ⟨x, η', st', m', rfl, hk, hg⟩ := hq
      exact hK _ _ _ _ _ _ hk hg
    | _ => exact hq
  have main := runS_sound (B := ⟨B.w0, B.mods, m, st.nx, η⟩) hT (CP := CP.still) ⟨hCP, fun _ h => h.elim⟩ (ops := ops) (Q := Q') (sc := sc) hok (fun η' st' m' a' w' h hg => ?_) (fun x η' st' m' a' w' h hg => ?_) (Region.noSelect_spec hns) (fun c a d v w hq => ?_) hnd
    (l := sc) hsch (fun _ h => h) (Nat.le_of_eq hlen) h hG0 (fun _ => ⟨hG0.H.imm, fun n c hl => ⟨trivial, (hG0.H.ck n c (hsel n c hl)).2⟩⟩)
  · exact Code.wp_mono hQQ (wp_region_any hm (wpAny_of_rel _ _ _ _ main))
  · obtain ⟨t, h, ht⟩ := clean_sound h
    have hg := rebase hg
    obtain ⟨sz, t0, gs, hp, nx⟩ := st'
    refine hK _ η' _ _ _ _ h ⟨hg.H, ⟨hg.T.sz, hg.T.df, fun k tag x hl => ?_, fun j g tg hl => by cases hl⟩⟩
    obtain ⟨rfl, _, hl'⟩ := ht k tag x hl
    exact hg.T.sl k [] x hl'
  · have hg := rebase hg
    refine ⟨x, η', st', m', rfl, ?_, hg.bare⟩
    obtain ⟨sz, t0, gs, hp, nx⟩ := st'
    exact h
  · obtain ⟨x, η', st', m', hc, hk, hg⟩ := hq
    refine ⟨x, η', st', m', hc, hk, hg.H, ⟨?_, ?_, fun k tag x hl => (by cases hl), fun j g tg hl => (by cases hl)⟩⟩
    · have := hg.T.sz
      cases d <;> simpa [Act.put] using this
    · have := hg.T.df
      cases d <;> simpa [Act.put] using this
theorem DPx_okB (hT : TOk P T) (hm : P.follows .mixedOrders = true) {CP : CallP} {B : Base} (hCP : CPOkB P B CP) {lv : List Nat} : DPOk P B (DPx T CP lv) := by
  intro id ops st m K h η a w Q hG hK
  rcases h with h | h
  · exact DPq_okB hT hm hCP id ops st m K h η a w Q hG hK
  · exact DPs_ok hT hm hCP.1 B id ops st m K h η a w Q hG hK
theorem DPx_ok (hT : TOk P T) (hm : P.follows .mixedOrders = true) {CP : CallP} (hCP : CPOk P CP) {lv : List Nat} (B : Base) : DPOk P B (DPx T CP lv) := DPx_okB hT hm (hCP B)
end
end Go.Proofs.Ytjpjiniclibgkaa.Sx

namespace Go.Proofs.Ytjpjiniclibgkaa.Sx

/-- Slices of what stays only look, wherever they begin. -/
def quiet2 : Op → Bool
  | .slice .. => true
  | op => isQuiet op
def quietT (o : Oper) : Bool := match o.op with
  | .pick .. => true
  | op => quiet2 op
inductive Tr where
  | done
  | one (i : Nat) (r : Tr)
  | two (i j : Nat) (x y : Tr)
def Tr.deep : Tr → Nat
  | .done => 0
  | .one _ r => r.deep + 1
  | .two _ _ x y => Nat.max x.deep y.deep + 1
def Tr.ofL : List Nat → Tr → Tr
  | [], t => t
  | i :: l, t => .one i (Tr.ofL l t)
def schedT (ops : Array Oper) (sc : List (Nat × Bool)) : Tr → Bool → Array Bool → Bool
  | .done, _, listed => (Region.ready .any ops listed).isEmpty
  | .one i r, ok, listed => match ops[i]? with
    | none => false
    | some o => match quietT o with
      | true => (Region.ready .any ops listed).contains i && Region.free .any ops listed i && (pureO o.op || ((!(keepB sc i) || ok) &&
        ((List.range ops.size).all fun j => j == i || listed.getD j true || memN j (reachL listed i ops.toList 0 []) || (match ops[j]? with
          | some oj => quietT oj || (keepB sc i && keepB sc j)
          | none => true)))) && schedT ops sc r ok (listed.setIfInBounds i true)
      | false => (Region.ready .any ops listed == [i]) && schedT ops sc r (ok && keepB sc i) (listed.setIfInBounds i true)
  | .two i j x y, ok, listed => match ops[i]?, ops[j]? with
    | some oi, some oj => !(quietT oi) && !(quietT oj) && (Region.ready .any ops listed == [i, j]) && schedT ops sc x (ok && keepB sc i) (listed.setIfInBounds i true)
      && schedT ops sc y (ok && keepB sc j) (listed.setIfInBounds j true)
    | _, _ => false
def orderT (ops : Array Oper) (sc : List (Nat × Bool)) (tr : Tr) : Bool := Region.noSelect ops && Nat.ble tr.deep ops.size && schedT ops sc tr true (Array.replicate ops.size false)

def quietV2 (T : Tbl) (st : St) (m : Mem) (tag : Tag) (op : Op) (K : SV → Prop) : Prop := match op with
  | .slice t x lo hi none => argAt st.t tag x fun v => optArg st.t tag lo fun l => optArg st.t tag hi fun h => sliceV T st.h t v l h (gc st.gs tag) K
  | op => quietV T st m tag op K
def lookT (T : Tbl) (b : Bool) (hs : Heap) (m0 : Mem) (st : St) (m : Mem) (tag : Tag) (op : Op) (K : SV → Prop) : Prop := match b with
  | true => (match st with | ⟨sz, t, gs, _, nx⟩ => quietV2 T ⟨sz, t, gs, hs, nx⟩ m0 tag op K)
  | false => quietV2 T st m tag op K

/-- One operation and what comes behind it. -/
def stepT (T : Tbl) (CP : CallP) (ops : List Oper) (hs : Heap) (m0 : Mem) (KP : SV → St → Mem → Prop) (sc : List (Nat × Bool)) (i : Nat) (K : St → Mem → Prop) (st : St) (m : Mem) : Prop := match nthO ops i with
  | none => False
  | some o => byGuard ops o st
    (fun st => match o.op with
      | .pick c x y => pickV ops st [] c x y fun v => putS ops st o.dst [] v fun st => K st m
      | op => match quiet2 op with
        | true => lookT T (keepB sc i && !(pureO op)) hs m0 st m [] op fun v => putS ops st o.dst [] v fun st => K st m
        | false => loudV T CP st m op (fun v st m => putS ops st o.dst [] v fun st => keepIf (keepB sc i) hs st.h (K st m)) KP)
    (fun st => K st m)
    fun st tg => match o.op with
      | .pick c x y => pickV ops st tg c x y fun v => putS ops st o.dst tg v fun st => K st m
      | op => match quiet2 op with
        | true => lookT T (keepB sc i && !(pureO op)) hs m0 st m tg op fun v => putS ops st o.dst tg v fun st => K st m
        | false => splitG ops o.dst (fun st m => loudV T CP st m op (fun v st m => putS ops st o.dst [] v fun st => keepIf (keepB sc i) hs st.h (K st m)) KP) K 9 tg st m
def runT (T : Tbl) (CP : CallP) (ops : List Oper) (hs : Heap) (m0 : Mem) (KP : SV → St → Mem → Prop) (sc : List (Nat × Bool)) (K : St → Mem → Prop) : Tr → St → Mem → Prop
  | .done => K
  | .one i r => stepT T CP ops hs m0 KP sc i (runT T CP ops hs m0 KP sc K r)
  | .two i j x y => fun st m => stepT T CP ops hs m0 KP sc i (runT T CP ops hs m0 KP sc K x) st m ∧ stepT T CP ops hs m0 KP sc j (runT T CP ops hs m0 KP sc K y) st m

def sealsE : List Nat → St → Mem → (St → Mem → Prop) → Prop
  | [], st, m, K => K st m
  | r :: l, st, m, K => sealE st m r fun _ _ st m => sealsE l st m K

/-- A region in no order, by a tree of orders. -/
def DPt (T : Tbl) (CP : CallP) (lv : List Nat) : List Oper → St → Mem → (Ex → St → Mem → Prop) → Prop := fun ops st m K =>
  ∃ (rs ks : List Nat) (sc : List (Nat × Bool)) (tr : Tr), orderT ops.toArray sc tr = true ∧ nodupB sc = true ∧ sealsE rs st m fun st m => (match okSt st with
    | true => selH st.h ks fun hs => runT T CP.still ops hs m (fun x st m => withT st [] [] fun st => K (.panic x) st m) sc (endR lv K) tr st m
    | false => False)
def DPy (T : Tbl) (CP : CallP) (lv : List Nat) : List Oper → St → Mem → (Ex → St → Mem → Prop) → Prop := fun ops st m K => DPx T CP lv ops st m K ∨ DPt T CP lv ops st m K

section
variable {P : Program} {T : Tbl} (hT : TOk P T) {B : Base}

include hT in
theorem quietV2_sound {η : Names} {m : Mem} {ops : List Oper} {st : St} {a : Act} (ht : HoldT ops η st a) {o : Oper} {tag : Tag} {K : SV → Prop} (hq : quiet2 o.op = true) (h : quietV2 T st m tag o.op K) :
    ∃ x, K x ∧ ∀ w : World, HQ η m st.h w → (tagB st.gs tag = true → (execOp a.eval o).run P w = .ok (.value (den η x)) w) := by
  have hC : ∀ c, gc st.gs tag c → tagB st.gs tag = true → c := fun c => gc_out
  unfold quietV2 at h
  split at h
  · rename_i t x lo hi hop
    obtain ⟨dst, op, ty, pos, after, guard⟩ := o
    obtain rfl : op = _ := hop
    obtain ⟨v, hl, hv⟩ := argAt_sound ht h
    obtain ⟨l, hl, hlo⟩ := optArg_sound ht hl
    obtain ⟨u, hl, hhi⟩ := optArg_sound ht hl
    obtain ⟨r, hk, hr⟩ := sliceV_sound (η := η) (m := m) hT hC hl
    exact ⟨r, hk, fun w hH htag => by simp only [execOp, hv htag, hlo htag, hhi htag, Option.map_none, Sem.run_bind, hr w hH htag, Result.andThen_ok]; rfl⟩
  · rename_i op hns
    have hq' : isQuiet o.op = true := by
      unfold quiet2 at hq
      split at hq
      · rename_i op' t x lo hi mx hop
        cases mx with
        | none => exact absurd hop (hns _ _ _ _)
        | some mx => rw [hop] at h; exact h.elim
      · exact hq
    exact quietV_sound hT ht hq' h
theorem pureO_quiet {op : Op} (h : pureO op = true) : ∀ t x lo hi mx, op ≠ .slice t x lo hi mx := by
  intro t x lo hi mx e
  subst e
  cases h
include hT in
theorem lookT_sound {b : Bool} {hs : Heap} (hok : ∀ n c, lookH hs n = some c → n < B.k0 ∧ okC B.k0 c = true) {l : List Oper} {η : Names} {st : St} {m : Mem} {a : Act} {w : World} {tag : Tag} {o : Oper} {K : SV → Prop}
    (hq : quiet2 o.op = true) (h : lookT T (b && !(pureO o.op)) hs B.m0 st m tag o.op K) (hG : Good B l η m st a w) :
    ∃ x, K x ∧ ∀ w', uponO o b (HQ B.η0 B.m0 hs) w w' → tagB st.gs tag = true → (execOp a.eval o).run P w' = .ok (.value (den η x)) w' := by
  cases hp : pureO o.op with
  | true =>
    rw [hp, Bool.not_true, Bool.and_false] at h
    have h : quietV T st m tag o.op K := by
      have h : quietV2 T st m tag o.op K := h
      unfold quietV2 at h
      split at h
      · rename_i hop; exact absurd hop (pureO_quiet hp _ _ _ _ _)
      · exact h
    obtain ⟨x, hk, hx⟩ := pureV_sound (P := P) hT hG.T hG.H.hq hp h
    exact ⟨x, hk, fun w' _ => hx w'⟩
  | false =>
    rw [hp, Bool.not_false, Bool.and_true] at h
    cases b with
    | true =>
      obtain ⟨sz, t, gs, hp, nx⟩ := st
      have ht : HoldT l η ⟨sz, t, gs, hs, nx⟩ a := ⟨hG.T.sz, hG.T.df, hG.T.sl, hG.T.gs⟩
      obtain ⟨x, hk, hx⟩ := quietV2_sound hT ht hq h
      exact ⟨x, hk, fun w' hS => hx w' (HQ.names (hS ‹_›) hok fun n hn => hG.H.par.2 n hn)⟩
    | false =>
      obtain ⟨x, hk, hx⟩ := quietV2_sound hT hG.T hq h
      exact ⟨x, hk, fun w' hS => by
        have hS : w' = w := hS ‹_›
        subst hS
        exact hx _ hG.H.hq⟩

def relT (ops : Array Oper) (sc : List (Nat × Bool)) (S : World → Prop) (j : Nat) (w w' : World) : Prop := match ops[j]? with
  | some o => match quietT o with
    | true => w' = w
    | false => match keepB sc j with
      | true => S w → S w'
      | false => True
  | none => True

/-- What is to be shown of one operation. -/
def StepOk (P : Program) (ops : Array Oper) (Q : Exit → Act → World → Prop) (sc : List (Nat × Bool)) (S : World → Prop) (i : Nat) (o : Oper) (ok : Bool) (listed : Array Bool) (f : Nat) (a : Act) (w : World) : Prop :=
  (quietT o = true → (Region.ready .any ops listed).contains i = true → Region.free .any ops listed i = true → (pureO o.op || ((!(keepB sc i) || ok) &&
        ((List.range ops.size).all fun j => j == i || listed.getD j true || memN j (reachL listed i ops.toList 0 []) || (match ops[j]? with
          | some oj => quietT oj || (keepB sc i && keepB sc j)
          | none => true)))) = true → wpAnyR P ops Q (relT ops sc S) (f + 1) listed a w) ∧
    (quietT o = false → wpOp P ops Q i (fun a' w' => relT ops sc S i w w' ∧ wpAnyR P ops Q (relT ops sc S) f (listed.setIfInBounds i true) a' w') a w)

include hT in
theorem stepT_sound {CP : CallP} (hCP : CPOkB P B CP) {ops : Array Oper} {KP : SV → St → Mem → Prop} {K : St → Mem → Prop} {Q : Exit → Act → World → Prop} {hs : Heap} {sc : List (Nat × Bool)}
    (hok : ∀ n c, lookH hs n = some c → n < B.k0 ∧ okC B.k0 c = true)
    (hKP : ∀ x η st m a w, KP x st m → Good B ops.toList η m st a w → Q (.panic [{ v := den η x, recovered := false }]) a w)
    (hsel : ∀ (j : Nat) (o : Oper) cs b, ops[j]? = some o → o.op ≠ .select cs b) (hQ : ∀ c (a : Act) (d : Option Tmp) (v : Value) w, Q (.panic c) (a.put d v) w → Q (.panic c) a w)
    {i : Nat} {o : Oper} (ho : ops[i]? = some o) {ok : Bool} {listed : Array Bool} {η : Names} {st : St} {m : Mem} {a : Act} {w : World} {f : Nat} (hS : ok = true → HQ B.η0 B.m0 hs w)
    (h : stepT T CP ops.toList hs B.m0 KP sc i K st m) (hG : Good B ops.toList η m st a w)
    (hn : ∀ (η : Names) (st : St) (m : Mem) (a : Act) (w' : World), K st m → Good B ops.toList η m st a w' → ((if quietT o = true then ok else ok && keepB sc i) = true → HQ B.η0 B.m0 hs w') →
      wpAnyR P ops Q (relT ops sc (HQ B.η0 B.m0 hs)) f (listed.setIfInBounds i true) a w') :
    StepOk P ops Q sc (HQ B.η0 B.m0 hs) i o ok listed f a w := by
  have hno : nthO ops.toList i = some o := by
    have key : ∀ (l : List Oper) (i : Nat), nthO l i = l[i]? := by
      intro l
      induction l with
      | nil => intro i; rfl
      | cons x r ih => intro i; cases i with
        | zero => rfl
        | succ n => simpa [nthO] using ih n
    rw [key]
    simpa using ho
  simp only [stepT, hno] at h
  -- an operation that only looks is taken first
  have quiet : ∀ {v : Value}, quietT o = true → YieldsIf P ops (uponO o (keepB sc i) (HQ B.η0 B.m0 hs) w) o v a → wpAnyR P ops Q (relT ops sc (HQ B.η0 B.m0 hs)) f (listed.setIfInBounds i true) (a.put o.dst v) w →
      StepOk P ops Q sc (HQ B.η0 B.m0 hs) i o ok listed f a w := by
    intro v hq hy hnext
    refine ⟨fun _ hr hfr hpall => ?_, fun h0 => (by rw [hq] at h0; cases h0)⟩
    refine wpAnyR_first (S := uponO o (keepB sc i) (HQ B.η0 B.m0 hs) w) ho hsel (fun c a w => hQ c a _ _ w) (fun w => by simp only [relT, ho, hq]) (tw := fun j => listed.getD j true = false ∧ Waits ops listed i j) (fun j oj hj ht => Waits.out hj ht.2) f listed a w (fun j hj => hj.1) (fun j oj hj hne hun hno' => ⟨Region.free_spec ho hfr j oj hj hne hun hno', fun hntw w1 w2 hS1 hrel => ?_⟩) (by simpa using hr) hy ?_ hnext
    · intro hp
      have hS1 := hS1 hp
      rw [hp] at hpall
      simp only [Bool.false_or, Bool.and_eq_true] at hpall
      have hall := hpall.2
      have hjs : j < ops.size := (Array.getElem?_eq_some_iff.1 hj).1
      have hw : memN j (reachL listed i ops.toList 0 []) = false := by
        cases hw : memN j (reachL listed i ops.toList 0 []) with
        | false => rfl
        | true => exact absurd ⟨hun, reachL_sound (fun j => by simp) (fun _ h => by cases h) j (memN_in hw)⟩ hntw
      have h1 := List.all_eq_true.1 hall j (List.mem_range.2 hjs)
      simp only [hw, hj, hun, Bool.or_false, Bool.or_eq_true, beq_iff_eq, hne, false_or, Bool.and_eq_true] at h1
      rcases h1 with h1 | ⟨hb, hkb⟩
      · simp only [relT, hj, h1] at hrel
        subst hrel
        exact hS1
      · rw [hb] at hS1 ⊢
        simp only [relT, hj] at hrel
        split at hrel
        · subst hrel; exact hS1
        · rw [hkb] at hrel
          exact hrel hS1
    · intro hp
      rw [hp] at hpall
      simp only [Bool.false_or, Bool.and_eq_true] at hpall
      cases hb : keepB sc i with
      | false => rfl
      | true =>
        rw [hb] at hpall
        exact hS (by simpa using hpall.1)
  have relI : ∀ w', quietT o = false → (keepB sc i = true → HQ B.η0 B.m0 hs w → HQ B.η0 B.m0 hs w') → relT ops sc (HQ B.η0 B.m0 hs) i w w' := by
    intro w' hq hw
    simp only [relT, ho, hq]
    split
    · rename_i hkb
      exact hw hkb
    · trivial
  have behind : ∀ {η' : Names} {st' : St} {m' : Mem} {a' : Act} {w' : World}, quietT o = false → keepIf (keepB sc i) hs st'.h (K st' m') → Good B ops.toList η' m' st' a' w' →
      relT ops sc (HQ B.η0 B.m0 hs) i w w' ∧ wpAnyR P ops Q (relT ops sc (HQ B.η0 B.m0 hs)) f (listed.setIfInBounds i true) a' w' := by
    intro η' st' m' a' w' hq hk hG'
    cases hb : keepB sc i with
    | false =>
      rw [hb] at hk
      exact ⟨relI w' hq (fun h => by rw [hb] at h; cases h), hn _ _ _ _ _ hk hG' (fun h => by rw [hq, hb] at h; simp at h)⟩
    | true =>
      rw [hb] at hk
      obtain ⟨hk, hl⟩ := keepK_sound hk
      have hS' : HQ B.η0 B.m0 hs w' := by
        refine HQ.names (η := η') ⟨fun x o hx => hG'.H.imm x o (hG'.H.mle x o hx), fun n c hn => ⟨trivial, (hG'.H.ck n c (hl n c hn)).2⟩⟩ hok fun n hn => (hG'.H.par.2 n hn).symm
      exact ⟨relI w' hq (fun _ _ => hS'), hn _ _ _ _ _ hk hG' (fun _ => hS')⟩
  have hqo : ∀ {op : Op}, o.op = op → (∀ c x y, op ≠ .pick c x y) → quietT o = quiet2 op := by
    intro op hop hnp
    unfold quietT
    rw [hop]
    split
    · exact absurd rfl (hnp _ _ _)
    · rfl
  have hqp : ∀ {c x y}, o.op = .pick c x y → quietT o = true := by
    intro c x y hop
    unfold quietT
    rw [hop]
  rcases byGuard_sound h hG with ⟨hw, h⟩ | ⟨hw, st', h, hG'⟩ | ⟨st1, tag, h, hG1, hwant⟩
  · split at h
    · rename_i c x y hop
      obtain ⟨v, h, hv⟩ := pickV_sound (P := P) hG.T h hop
      obtain ⟨st', h, hG', _⟩ := putS_sound hG h (v := den η v) (by simp [tagB])
      exact quiet (hqp hop) (.inl ⟨hw, fun w' _ => hv w' rfl⟩) (hn _ _ _ _ _ h hG' fun hb => by rw [if_pos (hqp hop)] at hb; exact hS hb)
    · rename_i op hnp
      split at h
      · rename_i hq
        have hqq : quietT o = true := (hqo rfl hnp).trans hq
        obtain ⟨v, h, hv⟩ := lookT_sound hT hok hq h hG
        obtain ⟨st', h, hG', _⟩ := putS_sound hG h (v := den η v) (by simp [tagB])
        exact quiet hqq (.inl ⟨hw, fun w' hS' => hv w' hS' rfl⟩) (hn _ _ _ _ _ h hG' fun hb => by rw [if_pos hqq] at hb; exact hS hb)
      · rename_i hq
        have hq' : quietT o = false := (hqo rfl hnp).trans hq
        refine ⟨fun h0 => (by rw [hq'] at h0; cases h0), fun _ => ?_⟩
        unfold wpOp
        simp only [ho, hw, if_true]
        refine .inl (loudV_sound hT hG hCP h (fun x η' st' m' w' hk hg => ?_) (fun x η' st' m' w' hk hg => hKP _ _ _ _ _ _ hk hg))
        obtain ⟨st'', h, hG', _⟩ := putS_sound hg hk (v := den η' x) (by simp [tagB])
        exact behind hq' h hG'
  · cases hq : quietT o with
    | true =>
      exact quiet (v := undef) hq (.inr ⟨hw, rfl⟩) (hn _ _ _ _ _ h hG' fun hb => by rw [if_pos hq] at hb; exact hS hb)
    | false =>
      refine ⟨fun h0 => (by rw [hq] at h0; cases h0), fun _ => ?_⟩
      unfold wpOp
      simp only [ho, hw]
      simp only [Bool.false_eq_true, if_false]
      exact ⟨relI w hq (fun _ h => h), hn _ _ _ _ _ h hG' (fun hb => by rw [hq] at hb; exact hS (by simp at hb; exact hb.1))⟩
  · have fin : ∀ {x : SV}, quietT o = true → (∀ w', uponO o (keepB sc i) (HQ B.η0 B.m0 hs) w w' → tagB st1.gs tag = true → (execOp a.eval o).run P w' = .ok (.value (den η x)) w') →
        (putS ops.toList st1 o.dst tag x fun st => K st m) → StepOk P ops Q sc (HQ B.η0 B.m0 hs) i o ok listed f a w := by
      intro x hq hx h
      obtain ⟨st', h, hG', _⟩ := putS_sound hG1 h rfl
      cases ht : tagB st1.gs tag with
      | true =>
        rw [ht, if_pos rfl] at hG'
        exact quiet hq (.inl ⟨by rw [hwant, ht], fun w' hS' => hx w' hS' ht⟩) (hn _ _ _ _ _ h hG' fun hb => by rw [if_pos hq] at hb; exact hS hb)
      | false =>
        rw [ht, if_neg (by decide)] at hG'
        exact quiet hq (.inr ⟨by rw [hwant, ht], rfl⟩) (hn _ _ _ _ _ h hG' fun hb => by rw [if_pos hq] at hb; exact hS hb)
    split at h
    · rename_i c x y hop
      obtain ⟨v, h, hv⟩ := pickV_sound (P := P) hG1.T h hop
      exact fin (hqp hop) (fun w' _ => hv w') h
    · rename_i op hnp
      split at h
      · rename_i hq
        obtain ⟨v, h, hv⟩ := lookT_sound hT hok hq h hG1
        exact fin ((hqo rfl hnp).trans hq) hv h
      · rename_i hq
        have hq' : quietT o = false := (hqo rfl hnp).trans hq
        obtain ⟨hgo, hskip⟩ := splitG_sound h hG1
        refine ⟨fun h0 => (by rw [hq'] at h0; cases h0), fun _ => ?_⟩
        unfold wpOp
        simp only [ho, hwant]
        cases ht : tagB st1.gs tag with
        | true =>
          simp only [if_true]
          obtain ⟨st2, h, hG2⟩ := hgo ht
          refine .inl (loudV_sound hT hG2 hCP h (fun x η' st' m' w' hk hg => ?_) (fun x η' st' m' w' hk hg => hKP _ _ _ _ _ _ hk hg))
          obtain ⟨st'', h, hG', _⟩ := putS_sound hg hk (v := den η' x) (by simp [tagB])
          exact behind hq' h hG'
        | false =>
          simp only [Bool.false_eq_true, if_false]
          obtain ⟨st2, h, hG2⟩ := hskip ht
          exact ⟨relI w hq' (fun _ h => h), hn _ _ _ _ _ h hG2 (fun hb => by rw [hq'] at hb; exact hS (by simp at hb; exact hb.1))⟩

include hT in
theorem runT_sound {CP : CallP} (hCP : CPOkB P B CP) {ops : Array Oper} {KP : SV → St → Mem → Prop} {K : St → Mem → Prop} {Q : Exit → Act → World → Prop} {hs : Heap} {sc : List (Nat × Bool)}
    (hok : ∀ n c, lookH hs n = some c → n < B.k0 ∧ okC B.k0 c = true)
    (hK : ∀ η st m a w, K st m → Good B ops.toList η m st a w → Q .normal a w)
    (hKP : ∀ x η st m a w, KP x st m → Good B ops.toList η m st a w → Q (.panic [{ v := den η x, recovered := false }]) a w)
    (hsel : ∀ (j : Nat) (o : Oper) cs b, ops[j]? = some o → o.op ≠ .select cs b) (hQ : ∀ c (a : Act) (d : Option Tmp) (v : Value) w, Q (.panic c) (a.put d v) w → Q (.panic c) a w) :
    ∀ {tr : Tr} {ok : Bool} {listed : Array Bool} {η : Names} {st : St} {m : Mem} {a : Act} {w : World} {fuel : Nat}, schedT ops sc tr ok listed = true → tr.deep ≤ fuel →
      runT T CP ops.toList hs B.m0 KP sc K tr st m → Good B ops.toList η m st a w → (ok = true → HQ B.η0 B.m0 hs w) → wpAnyR P ops Q (relT ops sc (HQ B.η0 B.m0 hs)) fuel listed a w
  | .done, ok, listed, η, st, m, a, w, fuel, hB, _, h, hG, _ => by
    simp only [schedT, List.isEmpty_iff] at hB
    cases fuel with
    | zero => exact ⟨hB, hK _ _ _ _ _ h hG⟩
    | succ f => exact ⟨fun _ => hK _ _ _ _ _ h hG, by rw [hB]; simp⟩
  | .one i r, ok, listed, η, st, m, a, w, 0, _, hf, _, _, _ => by simp [Tr.deep] at hf
  | .two i j x y, ok, listed, η, st, m, a, w, 0, _, hf, _, _, _ => by simp [Tr.deep] at hf
  | .one i r, ok, listed, η, st, m, a, w, f + 1, hB, hf, h, hG, hS => by
    have hf' : r.deep ≤ f := by simpa [Tr.deep] using hf
    simp only [schedT] at hB
    split at hB
    case h_1 => cases hB
    rename_i o ho
    have key := stepT_sound (K := runT T CP ops.toList hs B.m0 KP sc K r) hT hCP hok hKP hsel hQ ho (listed := listed) (f := f) hS h hG
    split at hB
    · rename_i hq
      simp only [Bool.and_eq_true] at hB
      obtain ⟨⟨⟨hr, hfr⟩, hp⟩, hB'⟩ := hB
      exact (key (fun η st m a w' hk hg hs' => runT_sound hCP hok hK hKP hsel hQ hB' hf' hk hg (by rw [if_pos hq] at hs'; exact hs'))).1 hq hr hfr (by simpa only [Bool.or_eq_true, Bool.and_eq_true] using hp)
    · rename_i hq
      simp only [Bool.and_eq_true, beq_iff_eq] at hB
      obtain ⟨hr, hB'⟩ := hB
      refine ⟨fun h0 => (by rw [hr] at h0; cases h0), fun j hj => ?_⟩
      rw [hr] at hj
      simp only [List.mem_singleton] at hj
      subst hj
      exact (key (fun η st m a w' hk hg hs' => runT_sound hCP hok hK hKP hsel hQ hB' hf' hk hg (by rw [if_neg (by rw [hq]; decide)] at hs'; exact hs'))).2 hq
  | .two i j x y, ok, listed, η, st, m, a, w, f + 1, hB, hf, h, hG, hS => by
    have hf' : Nat.max x.deep y.deep ≤ f := by simpa [Tr.deep] using hf
    have hfx : x.deep ≤ f := Nat.le_trans (Nat.le_max_left ..) hf'
    have hfy : y.deep ≤ f := Nat.le_trans (Nat.le_max_right ..) hf'
    simp only [schedT] at hB
    split at hB
    case h_2 => cases hB
    rename_i oi oj hoi hoj
    simp only [Bool.and_eq_true, Bool.not_eq_true', beq_iff_eq] at hB
    obtain ⟨⟨⟨⟨hqi, hqj⟩, hr⟩, hBx⟩, hBy⟩ := hB
    refine ⟨fun h0 => (by rw [hr] at h0; cases h0), fun k hk => ?_⟩
    rw [hr] at hk
    simp only [List.mem_cons, List.not_mem_nil, or_false] at hk
    rcases hk with rfl | rfl
    · exact (stepT_sound (K := runT T CP ops.toList hs B.m0 KP sc K x) hT hCP hok hKP hsel hQ hoi (listed := listed) (f := f) hS h.1 hG
        (fun η st m a w' hk hg hs' => runT_sound hCP hok hK hKP hsel hQ hBx hfx hk hg (by rw [if_neg (by rw [hqi]; decide)] at hs'; exact hs'))).2 hqi
    · exact (stepT_sound (K := runT T CP ops.toList hs B.m0 KP sc K y) hT hCP hok hKP hsel hQ hoj (listed := listed) (f := f) hS h.2 hG
        (fun η st m a w' hk hg hs' => runT_sound hCP hok hK hKP hsel hQ hBy hfy hk hg (by rw [if_neg (by rw [hqj]; decide)] at hs'; exact hs'))).2 hqj

theorem sealsE_sound {ops : List Oper} {η : Names} {a : Act} {w : World} {K : St → Mem → Prop} : ∀ {l : List Nat} {st : St} {m : Mem}, sealsE l st m K → Good B ops η m st a w → ∃ st' m', K st' m' ∧ Good B ops η m' st' a w
  | [], st, m, h, hG => ⟨st, m, h, hG⟩
  | r :: l, st, m, h, hG => by
    obtain ⟨st', m', h, hG'⟩ := sealE_sound hG h
    exact sealsE_sound h hG'

theorem DPt_ok (hT : TOk P T) (hm : P.follows .mixedOrders = true) {CP : CallP} (hCP : CallsOk P CP.c) {lv : List Nat} (B : Base) : DPOk P B (DPt T CP lv) := by
  intro id ops st m K h η a w Q hG hK
  obtain ⟨rs, ks, sc, tr, hB, hnd, h⟩ := h
  obtain ⟨st, m, h, hG⟩ := sealsE_sound h hG
  rw [Array.toArray_toList] at hB
  simp only [orderT, Bool.and_eq_true] at hB
  obtain ⟨⟨hns, hlen⟩, hsch⟩ := hB
  split at h
  case h_2 => exact h.elim
  rename_i hokst
  simp only [okSt, Bool.and_eq_true] at hokst
  obtain ⟨hs, h, hsel⟩ := selH_sound h
  -- the same, with this moment as the beginning
  have rebase : ∀ {l : List Oper} {η' : Names} {m' : Mem} {st' : St} {a' : Act} {w' : World}, Good ⟨B.w0, B.mods, m, st.nx, η⟩ l η' m' st' a' w' → Good B l η' m' st' a' w' := by
    intro l η' m' st' a' w' hG'
    have hH := hG'.H
    refine ⟨⟨hH.imm, hH.ck, hH.own, hH.apart, hH.old, hH.size, hH.os, hH.tape, hH.output, fun x o hx => hH.mle x o (hG.H.mle x o hx), fun x o hx => ?_, ⟨Nat.le_trans hG.H.par.1 hH.par.1, fun n hn => (hH.par.2 n (Nat.lt_of_lt_of_le hn hG.H.par.1)).trans (hG.H.par.2 n hn)⟩⟩, hG'.T⟩
    rcases hH.mnew x o hx with h1 | h1
    · exact hG.H.mnew x o h1
    · exact .inr h1
  have hG0 : Good ⟨B.w0, B.mods, m, st.nx, η⟩ ops.toList η m st a { w with drawn := w.drawn + 1 } := by
    have hG' := (hG.any ops.toList).drawn (w.drawn + 1)
    have hH := hG'.H
    exact ⟨⟨hH.imm, hH.ck, hH.own, hH.apart, hH.old, hH.size, hH.os, hH.tape, hH.output, fun _ _ h => h, fun _ _ h => .inl h, ⟨Nat.le_refl _, fun _ _ => rfl⟩⟩, hG'.T⟩
  have hok : ∀ n c, lookH hs n = some c → n < st.nx ∧ okC st.nx c = true := fun n c hl => okH_look hokst.2 (hsel n c hl)
  -- a panic is left with no slot known
  let Q' : Exit → Act → World → Prop := fun e a w => match e with
    | .panic c => ∃ (x : SV) (η' : Names) (st' : St) (m' : Mem), c = [{ v := den η' x, recovered := false }] ∧ K (.panic x) ⟨st'.sz, [], [], st'.h, st'.nx⟩ m' ∧ Good B [] η' m' ⟨st'.sz, [], [], st'.h, st'.nx⟩ a w
    | e => Q e a w
  have hQQ : ∀ e a w, Q' e a w → Q e a w := by
    intro e a w hq
    cases e with
    | panic c =>
      obtain ⟨x, η', st', m', rfl, hk, hg⟩ := hq
      exact hK _ _ _ _ _ _ hk hg
    | _ => exact hq
  have main := runT_sound (B := ⟨B.w0, B.mods, m, st.nx, η⟩) hT (CP := CP.still) ⟨hCP, fun _ h => h.elim⟩ (ops := ops) (Q := Q') (sc := sc) hok (fun η' st' m' a' w' h hg => ?_) (fun x η' st' m' a' w' h hg => ?_) (Region.noSelect_spec hns) (fun c a d v w hq => ?_)
    (tr := tr) hsch (Nat.le_of_ble_eq_true hlen) h hG0 (fun _ => ⟨hG0.H.imm, fun n c hl => ⟨trivial, (hG0.H.ck n c (hsel n c hl)).2⟩⟩)
  · exact Code.wp_mono hQQ (wp_region_any hm (wpAny_of_rel _ _ _ _ main))
  · obtain ⟨t, h, ht⟩ := clean_sound h
    have hg := rebase hg
    obtain ⟨sz, t0, gs, hp, nx⟩ := st'
    refine hK _ η' _ _ _ _ h ⟨hg.H, ⟨hg.T.sz, hg.T.df, fun k tag x hl => ?_, fun j g tg hl => by cases hl⟩⟩
    obtain ⟨rfl, _, hl'⟩ := ht k tag x hl
    exact hg.T.sl k [] x hl'
  · have hg := rebase hg
    refine ⟨x, η', st', m', rfl, ?_, hg.bare⟩
    obtain ⟨sz, t0, gs, hp, nx⟩ := st'
    exact h
  · obtain ⟨x, η', st', m', hc, hk, hg⟩ := hq
    refine ⟨x, η', st', m', hc, hk, hg.H, ⟨?_, ?_, fun k tag x hl => (by cases hl), fun j g tg hl => (by cases hl)⟩⟩
    · have := hg.T.sz
      cases d <;> simpa [Act.put] using this
    · have := hg.T.df
      cases d <;> simpa [Act.put] using this
theorem DPy_okB (hT : TOk P T) (hm : P.follows .mixedOrders = true) {CP : CallP} {B : Base} (hCP : CPOkB P B CP) {lv : List Nat} : DPOk P B (DPy T CP lv) := by
  intro id ops st m K h η a w Q hG hK
  rcases h with h | h
  · exact DPx_okB hT hm hCP id ops st m K h η a w Q hG hK
  · exact DPt_ok hT hm hCP.1 B id ops st m K h η a w Q hG hK
theorem DPy_ok (hT : TOk P T) (hm : P.follows .mixedOrders = true) {CP : CallP} (hCP : CPOk P CP) {lv : List Nat} (B : Base) : DPOk P B (DPy T CP lv) := DPy_okB hT hm (hCP B)
end
end Go.Proofs.Ytjpjiniclibgkaa.Sx
