/- Symbolic execution, fifteenth text: append, make, literals of slices are evaluated rightly. -/
import Derived.Test.YtaeoibnbbpgajaaDoorSxN
namespace Go.Proofs.YtaeoibnbbpgajaaDoor.Sx

theorem cell_heap {w W : World} (h : W.heap = w.heap) (a : Addr) : W.cell? a = w.cell? a := by simp [World.cell?, h]

section
variable {P : Program} {T : Tbl} (hT : TOk P T) {B : Base} {ops : List Oper} {η : Names} {m : Mem} {st : St} {a : Act} {w : World} (hG : Good B ops η m st a w)

theorem srcV_sound {h : Heap} {nx : Nat} (hH : Hold B η m h nx w) {e : TypeId} {z : Nat} {x : SV} {K : Nat → List Value → Prop} (hs : srcV h m e z x K) :
    ∃ n vs, K n vs ∧ vs.length = n * z ∧ (∀ u ∈ vs, u.oneCell' = true) ∧ (Builtin.lenOf (den η x)).run P w = .ok n w ∧
      ∀ W : World, W.heap = w.heap → (Builtin.firstCells z n (den η x)).run P W = .ok vs.toArray W := by
  unfold srcV at hs
  split at hs
  · rename_i r n
    split at hs
    · rename_i e' z' k xs hl
      split at hs
      · rename_i hb
        simp only [Bool.and_eq_true] at hb
        obtain rfl := beq_eq hb.1
        obtain ⟨hn, hk⟩ := hs
        obtain ⟨⟨hxl, hx1⟩, hrow⟩ := (hH.ck r _ hl).2
        have hlen : (xs.take (n * z)).length = n * z := by
          rw [List.length_take, hxl, Nat.min_eq_left (Nat.mul_le_mul_right _ hn)]
        refine ⟨n, _, hk, hlen, fun u hu => hx1 u (List.mem_of_mem_take hu), rfl, fun W hW => ?_⟩
        rcases hrow with ⟨_, hk0, _⟩ | ⟨b, cur, hA, _, hb, _, _, _, htake⟩
        · obtain rfl : n = 0 := by omega
          cases hA : (η r).A <;> simp [den, hA, Builtin.firstCells, loadCells, loadCellsFrom]
        · simp only [den, hA]
          refine run_firstCells_some (P := P) W z n _ _ _ _ hlen fun j u hu => ?_
          rw [cell_heap hW, add_base, cell_of_row w b j cur e' (0, 0) hb]
          rw [List.getElem?_take] at hu
          split at hu
          · rw [← htake, List.getElem?_take] at hu
            split at hu
            · simpa using hu
            · cases hu
          · cases hu
      · exact hs.elim
    · exact hs.elim
  · rename_i A n c
    obtain ⟨vs, ⟨hl, h1, hr⟩, hk⟩ := hs
    refine ⟨n, vs, hk, hl, h1, rfl, fun W hW => ?_⟩
    rcases Nat.eq_zero_or_pos n with rfl | hp
    · have hv : vs = [] := List.eq_nil_of_length_eq_zero (by simpa using hl)
      subst hv
      cases A <;> simp [den, Builtin.firstCells, loadCells, loadCellsFrom]
    · obtain ⟨ad, rfl, hlen, hc⟩ := hr hp
      refine run_firstCells_some (P := P) W z n _ _ _ _ hl fun j u hu => ?_
      rw [cell_heap hW]
      exact mcell_cell hH.hq (by have := hc j u hu; rwa [Nat.zero_add] at this)
  · rename_i s
    split at hs
    · rename_i hb
      obtain rfl := beq_eq hb
      refine ⟨_, _, hs, by simp, fun u hu => ?_, rfl, fun W hW => ?_⟩
      · simp only [List.mem_map] at hu
        obtain ⟨b, _, rfl⟩ := hu
        rfl
      · have he : s.extract 0 s.size = s := by
          rw [ByteArray.ext_iff]
          simp
        simp only [den, Builtin.firstCells, he, Sem.run_pure]
        congr 1
        apply Array.ext'
        simp
    · exact hs.elim
  · exact hs.elim

include hG in
/-- What append leaves where it makes a new array. -/
theorem grow_put {h' : Heap} {e : TypeId} {z need old : Nat} {xs : List Value} {zc : Array Value} (hzc : zc.size = z) (hd : ∀ k c, lookH h' k = some c → lookH st.h k = some c) (hok : okH st.nx h' = true) (hokT : okT st.nx st.t = true)
    (hl : xs.length = need * z) (h1 : ∀ u ∈ xs, u.oneCell' = true) (hm : need ≤ maxLen) :
    Good B ops (addN η st.nx ⟨some ⟨w.heap.size, 0, none⟩, grownCap w need old e, some w.heap.size⟩) m ⟨st.sz, st.t, st.gs, (st.nx, .row e z need xs) :: h', st.nx + 1⟩ a
      (w.drew.alloc (.cells (xs.toArray ++ Builtin.zeroCells zc (grownCap w need old e - need)) e)) := by
  have hge := grownCap_ge w need old e
  have hcm := grownCap_le_maxLen w need old e hm
  have hag := addN_agree η st.nx ⟨some ⟨w.heap.size, 0, none⟩, grownCap w need old e, some w.heap.size⟩
  have hnew := addN_new η st.nx ⟨some ⟨w.heap.size, 0, none⟩, grownCap w need old e, some w.heap.size⟩
  have hH := hG.H.del hd
  refine ⟨hH.put hok (fun k hk _ => heap_push_lt w.drew _ hk) (by simp) rfl rfl rfl (fun b hb => ?_) ?_, hG.T.names hokT hag rfl rfl rfl⟩
  · simp only [Option.some.injEq] at hb
    subst hb
    exact hH.fresh (Nat.le_refl _) (by simp)
  · refine ⟨⟨hl, h1⟩, .inr ⟨w.heap.size, _, by rw [hnew], by rw [hnew], heap_alloc_new w.drew _, ?_, ?_, ?_, ?_⟩⟩
    · rw [hnew]; exact hge
    · rw [hnew]; exact hcm
    · rw [hnew]
      simp only [Array.size_append, List.size_toArray, size_zeroCells, hzc, hl, ← Nat.add_mul]
      congr 1
      omega
    · simp only [Array.toList_append]
      rw [← hl]
      exact List.take_left

theorem addN_row (η : Names) (nx : Nat) (p : Place) (len : Nat) : den (addN η nx p) (.rw nx len) = .slice p.A len p.cap := by simp only [den, addN_new]

include hT hG in
theorem appendE_sound {t u : TypeId} {s x : SV} {K : SV → St → Prop} {ty : TypeId} (huu : (∃ e', P.underlying u = some (.slice e')) ∨ P.underlying u = some .string) (h : appendE T st m t s x K) :
    ∃ v η' st' w', K v st' ∧ (Builtin.append_ #[t, u] ty #[den η s, den η x]).run P w = .ok (den η' v) w' ∧ Good B ops η' m st' a w' := by
  have hH := hG.H
  unfold appendE at h
  split at h
  case h_2 => exact h.elim
  rename_i ti hti
  split at h
  case h_2 => exact h.elim
  rename_i e hd
  have hu := (hT t ti hti).1
  rw [hd] at hu
  split at h
  case h_2 => exact h.elim
  rename_i te hte
  obtain ⟨_, hzcl, hzsz, hzg, ⟨i, hi, hisz, hiby, hiz⟩, _⟩ := hT e te hte
  obtain ⟨n, vs, hq, hvl, hv1, hlen, hfc⟩ := srcV_sound (P := P) hH h
  clear h
  revert hq; intro h
  -- nothing was there before, and nothing is at hand
  have empty : ∀ {A : Option Addr} {h' : Heap}, (∀ k c, lookH h' k = some c → lookH st.h k = some c) → okH st.nx h' = true → okT st.nx st.t = true → n * te.bytes ≤ 140737488355328 → n ≤ maxLen →
      K (.rw st.nx n) ⟨st.sz, st.t, st.gs, (st.nx, .row e te.size n vs) :: h', st.nx + 1⟩ →
      ∃ v η' st' w', K v st' ∧ (Builtin.append_ #[t, u] ty #[.slice A 0 0, den η x]).run P w = .ok (den η' v) w' ∧ Good B ops η' m st' a w' := by
    intro A h' hd hok hokT hby hml hk
    by_cases hn : n = 0
    · subst hn
      have hv : vs = [] := List.eq_nil_of_length_eq_zero (by simpa using hvl)
      subst hv
      refine ⟨_, addN η st.nx ⟨A, 0, none⟩, _, w, hk, ?_, ?_⟩
      · rw [addN_row]
        exact append_none hu huu hi hlen (by rw [hisz]; exact hfc w rfl) ty
      · refine ⟨(hH.del hd).put hok (fun _ _ _ => rfl) (Nat.le_refl _) rfl rfl rfl (fun b hb => by cases hb) ?_, hG.T.names hokT (addN_agree _ _ _) rfl rfl rfl⟩
        refine ⟨⟨by simp, by simp⟩, .inl ?_⟩
        rw [addN_new]
        exact ⟨rfl, rfl, rfl⟩
    · have hgrow := append_grow (P := P) (w := w) (A := A) (sLen := 0) (sCap := 0) (olds := []) (news := vs) (x := den η x) hu huu hi hiz
        (by cases A <;> simp [Builtin.firstCells, loadCells, loadCellsFrom]) hlen (by rw [hisz]; exact hfc w.drew rfl) (by omega) (by simp only [maxLen] at hml; omega)
        (growslice_fits (by omega) (by rw [hiby]; simpa using hby)) ty
      simp only [Nat.zero_add] at hgrow
      refine ⟨_, _, _, _, hk, ?_, grow_put hG (old := 0) hzsz hd hok hokT hvl hv1 hml⟩
      rw [addN_row, hgrow]
      simp
  split at h
  · rename_i r len
    split at h
    · rename_i e' z k xs hl
      split at h
      · rename_i hb
        simp only [Bool.and_eq_true] at hb
        obtain rfl := beq_eq hb.1
        obtain rfl := beq_eq hb.2
        obtain ⟨⟨hlk, hby, hml⟩, h⟩ := h
        unfold moveRow at h
        simp only [forceN_eq] at h
        split at h
        · rename_i hokb
          simp only [okSt, Bool.and_eq_true] at hokb
          obtain ⟨hokT, hokH⟩ := hokb
          obtain ⟨h', hq, hd, hok'⟩ := delHK_sound h
          clear h
          revert hq; intro h
          have hok := hok' _ hokH
          have hk : K (.rw st.nx (len + n)) ⟨st.sz, st.t, st.gs, (st.nx, .row e te.size (len + n) (xs.take (len * te.size) ++ vs)) :: h', st.nx + 1⟩ := by
            obtain ⟨sz, tt, gs, hp, nx⟩ := st
            exact h
          obtain ⟨⟨hxl, hx1⟩, ⟨_, hk0, hcap⟩ | ⟨b, cur, hA, ho, hb, hkc, hcm, hcur, htake⟩⟩ := (hH.ck r _ hl).2
          · obtain rfl : len = 0 := by omega
            have := empty (A := (η r).A) (fun k c hkc => (hd k c hkc).1) hok hokT (by simp only [Nat.zero_add] at hby; omega) (by simp only [maxLen]; omega) (by simpa using hk)
            simpa only [den, hcap] using this
          · have htl : (xs.take (len * te.size)).length = len * te.size := by
              rw [List.length_take, hxl, Nat.min_eq_left (Nat.mul_le_mul_right _ hlk)]
            have hall : ∀ u ∈ xs.take (len * te.size) ++ vs, u.oneCell' = true := by
              intro u hu
              rcases List.mem_append.1 hu with hu | hu
              · exact hx1 u (List.mem_of_mem_take hu)
              · exact hv1 u hu
            have hlall : (xs.take (len * te.size) ++ vs).length = (len + n) * te.size := by rw [List.length_append, htl, hvl, Nat.add_mul]
            have hcx : cur.toList.take (len * te.size) = xs.take (len * te.size) := by
              rw [← htake, List.take_take, Nat.min_eq_left (Nat.mul_le_mul_right _ hlk)]
            by_cases hroom : len + n ≤ (η r).cap
            · have hfit : len * te.size + vs.length ≤ cur.size := by rw [hvl, hcur, ← Nat.add_mul]; exact Nat.mul_le_mul_right _ hroom
              have hrun := append_room (P := P) (sLen := len) (sCap := (η r).cap) (x := den η x) hu huu hi hb hlen (by rw [hisz]; exact hfc w rfl) hv1 hroom (by rw [hisz]; exact hfit) ty
              rw [hisz] at hrun
              have hx' : den η (.rw r len) = .slice (some ⟨b, 0, none⟩) len (η r).cap := by simp only [den, hA]
              rw [← hx'] at hrun
              obtain ⟨hmb, hbs, hbm⟩ := hH.own r _ b hl ho
              refine ⟨_, addN η st.nx ⟨some ⟨b, 0, none⟩, (η r).cap, some b⟩, _, _, hk, hrun.trans (congrArg (fun v => Result.ok v _) (addN_row η st.nx ⟨some ⟨b, 0, none⟩, (η r).cap, some b⟩ (len + n)).symm), ⟨(hH.del fun k c hkc => (hd k c hkc).1).put hok (fun k _ hkb => setRow_other w b k _ (fun e => hkb (by rw [e]))) (by simp) rfl rfl rfl (fun b' hb' => ?_) ?_, hG.T.names hokT (addN_agree _ _ _) rfl rfl rfl⟩⟩
              · simp only [Option.some.injEq] at hb'
                subst hb'
                exact ⟨hmb, by simpa using hbs, hbm, fun k c hkc hko => hH.apart k c r _ b (hd k c hkc).1 hl (hd k c hkc).2 hko ho⟩
              · refine ⟨⟨hlall, hall⟩, .inr ⟨b, _, by rw [addN_new], by rw [addN_new], setRow_heap w b _ _ e _ hb, ?_, ?_, ?_, ?_⟩⟩
                · rw [addN_new]; exact hroom
                · rw [addN_new]; exact hcm
                · rw [addN_new]
                  simp only [List.size_toArray, List.length_append, List.length_take, List.length_drop, Array.length_toList]
                  omega
                · show List.take _ (_ ++ _ ++ _) = _
                  rw [hcx, ← hlall]
                  exact List.take_left
            · have hgrow := append_grow (P := P) (w := w) (A := some ⟨b, 0, none⟩) (sLen := len) (sCap := (η r).cap) (olds := xs.take (len * te.size)) (news := vs) (x := den η x) hu huu hi hiz
                (by
                  rw [hisz]
                  refine run_firstCells_some (P := P) w.drew te.size len _ _ _ _ htl fun j u hu => ?_
                  rw [add_base]
                  show w.cell? _ = _
                  rw [cell_of_row w b j cur e (0, 0) hb]
                  rw [← hcx, List.getElem?_take] at hu
                  split at hu
                  · simpa using hu
                  · cases hu) hlen (by rw [hisz]; exact hfc w.drew rfl) (by omega) (by omega)
                (growslice_fits (by omega) (by rw [hiby]; omega)) ty
              refine ⟨_, _, _, _, hk, ?_, grow_put hG (old := (η r).cap) hzsz (fun k c hkc => (hd k c hkc).1) hok hokT hlall hall (by simp only [maxLen]; omega)⟩
              rw [addN_row]
              simp only [den, hA]
              rw [hgrow]
              congr 3
              simp
        · exact h.elim
      · exact h.elim
    · exact h.elim
  · rename_i A len cap
    obtain ⟨⟨rfl, rfl, hby, hml⟩, h⟩ := h
    unfold newRow at h
    simp only [forceN_eq] at h
    split at h
    · rename_i hokb
      simp only [okSt, Bool.and_eq_true] at hokb
      have hk : K (.rw st.nx n) ⟨st.sz, st.t, st.gs, (st.nx, .row e te.size n vs) :: st.h, st.nx + 1⟩ := by
        obtain ⟨sz, tt, gs, hp, nx⟩ := st
        exact h
      exact empty (fun k c hkc => hkc) hokb.2 hokb.1 (by omega) (by simp only [maxLen]; omega) hk
    · exact h.elim
  · exact h.elim
end
end Go.Proofs.YtaeoibnbbpgajaaDoor.Sx
