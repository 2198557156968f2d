/- Symbolic execution, thirteenth text: new blocks and stores, as operations. -/
import Derived.Test.YtaeoibnbbpgajaaDoorSxL
namespace Go.Proofs.YtaeoibnbbpgajaaDoor.Sx

/-- All that is known of a state: of the world, and of the slots. -/
structure Good (B : Base) (ops : List Oper) (η : Names) (m : Mem) (st : St) (a : Act) (w : World) : Prop where
  H : Hold B η m st.h st.nx w
  T : HoldT ops η st a

theorem HoldT.names {ops : List Oper} {η η' : Names} {st st' : St} {a : Act} (h : HoldT ops η st a) (hok : okT st.nx st.t = true) (hag : Agree st.nx η η')
    (hsz : st'.sz = st.sz) (ht : st'.t = st.t) (hg : st'.gs = st.gs) : HoldT ops η' st' a := by
  refine ⟨by rw [hsz]; exact h.sz, h.df, fun k tag x hl => ?_, fun j g tg hl => ?_⟩
  · rw [ht] at hl
    rw [hg, den_ok hag x (okT_look hok hl)]
    exact h.sl k tag x hl
  · rw [hg] at hl
    rw [ht]
    exact h.gs j g tg hl

section
variable {P : Program} {T : Tbl} (hT : TOk P T) {B : Base} {ops : List Oper} {η : Names} {m : Mem} {st : St} {a : Act} {w : World} (hG : Good B ops η m st a w)

include hG in
theorem newSt_sound {e : TypeId} {cs : List SV} {K : SV → St → Prop} (h : newSt st e cs K) :
    ∃ x η' st', K x st' ∧ Good B ops η' m st' a (w.alloc (.cells (dens η cs).toArray e)) ∧ den η' x = .pointer (some ⟨w.heap.size, 0, none⟩) := by
  unfold newSt at h
  simp only [forceN_eq] at h
  split at h
  · rename_i hb
    simp only [okSt, Bool.and_eq_true] at hb
    obtain ⟨⟨ht, hh⟩, hc⟩ := hb
    obtain ⟨sz, t, gs, hp, nx⟩ := st
    have hag := addN_agree η nx ⟨some ⟨w.heap.size, 0, none⟩, 0, some w.heap.size⟩
    have hnew := addN_new η nx ⟨some ⟨w.heap.size, 0, none⟩, 0, some w.heap.size⟩
    refine ⟨_, addN η nx ⟨some ⟨w.heap.size, 0, none⟩, 0, some w.heap.size⟩, _, h, ⟨hG.H.add hh (.inl rfl) ?_, hG.T.names ht hag rfl rfl rfl⟩, ?_⟩
    · refine ⟨w.heap.size, by rw [hnew], by rw [hnew], ?_⟩
      rw [dens_ok hag cs hc]
      exact heap_alloc_new w _
    · simp only [den, hnew]
      rfl
  · exact h.elim

include hG in
/-- A new row: its block holds the row's cells first. -/
theorem newRow_sound {e : TypeId} {z n cap : Nat} {xs : List Value} {cur : Array Value} {K : SV → St → Prop} (h : newRow st e z n xs K) (hl : xs.length = n * z) (h1 : ∀ u ∈ xs, u.oneCell' = true)
    (hn : n ≤ cap) (hcap : cap ≤ maxLen) (hcur : cur.size = cap * z) (htake : cur.toList.take (n * z) = xs) :
    ∃ x η' st', K x st' ∧ Good B ops η' m st' a (w.alloc (.cells cur e)) ∧ den η' x = .slice (some ⟨w.heap.size, 0, none⟩) n cap := by
  unfold newRow at h
  simp only [forceN_eq] at h
  split at h
  · rename_i hb
    simp only [okSt, Bool.and_eq_true] at hb
    obtain ⟨ht, hh⟩ := hb
    obtain ⟨sz, t, gs, hp, nx⟩ := st
    have hag := addN_agree η nx ⟨some ⟨w.heap.size, 0, none⟩, cap, some w.heap.size⟩
    have hnew := addN_new η nx ⟨some ⟨w.heap.size, 0, none⟩, cap, some w.heap.size⟩
    refine ⟨_, addN η nx ⟨some ⟨w.heap.size, 0, none⟩, cap, some w.heap.size⟩, _, h, ⟨hG.H.add hh (.inl rfl) ?_, hG.T.names ht hag rfl rfl rfl⟩, ?_⟩
    · refine ⟨⟨hl, h1⟩, .inr ⟨w.heap.size, cur, by rw [hnew], by rw [hnew], heap_alloc_new w _, ?_, ?_, ?_, htake⟩⟩
      · rw [hnew]; exact hn
      · rw [hnew]; exact hcap
      · rw [hnew]; exact hcur
    · simp only [den, hnew]
  · exact h.elim

theorem fits_or {g : Bool} {x : SV} (h : fitsB g x = true) : isG x = true ∨ plainB x = true := by
  cases g with
  | true => cases x <;> first | exact .inl rfl | cases h
  | false => exact .inr h
theorem ints_one (n : Nat) (k : IntKind) (f : Nat → Int) : ∀ u ∈ ints n k f, u.oneCell' = true := by
  intro u hu
  simp only [ints, List.mem_map] at hu
  obtain ⟨j, _, rfl⟩ := hu
  rfl
theorem plains_one (η : Names) : ∀ {cs : List SV}, plains cs = true → ∀ u ∈ dens η cs, u.oneCell' = true
  | [], _, u, hu => by cases hu
  | x :: r, h, u, hu => by
    simp only [plains, Bool.and_eq_true, Bool.or_eq_true] at h
    rw [dens_cons, List.mem_append] at hu
    rcases hu with hu | hu
    · rcases h.1 with hp | hg
      · rw [dens_one η x (plain_gi hp)] at hu
        simp only [List.mem_singleton] at hu
        subst hu
        exact plain_one η x hp
      · cases x <;> first | cases hg | skip
        simp only [dens, pc, List.append_nil] at hu
        exact ints_one _ _ _ u hu
    · exact plains_one η h.2 u hu
theorem fits_one (η : Names) {g : Bool} {x : SV} (h : fitsB g x = true) : ∀ u ∈ (den η x).cells.toList, u.oneCell' = true := by
  cases g with
  | true =>
    cases x <;> first | cases h | skip
    rename_i cs
    simp only [den, Value.cells]
    exact plains_one η h
  | false =>
    intro u hu
    rw [cells_one _ (plain_one η x h)] at hu
    simp only [List.mem_singleton] at hu
    subst hu
    exact plain_one η x h

include hT in
theorem run_storeAt {t : TypeId} {ti : TI} (hti : T.at t = some ti) {b o : Nat} {cur : Array Value} {e : TypeId} (hb : w.heap[b]? = some (.cells cur e (0, 0))) {v : Value}
    (hsz : v.cells.size = ti.size) (hfit : o + ti.size ≤ cur.size) (h1 : ∀ u ∈ v.cells.toList, u.oneCell' = true) :
    (Instr.storeAt t (.pointer (some ⟨b, o, none⟩)) v).run P w = .ok () (w.setRow b (cur.toList.take o ++ (v.cells.toList ++ cur.toList.drop (o + ti.size))).toArray) := by
  have hs := run_size hT (w := w) hti
  have := run_storeCells_at P b o e v.cells.toList 0 cur w hb (by rw [Array.length_toList]; omega) h1
  simp only [Nat.add_zero, Array.length_toList, hsz] at this
  simp only [Instr.storeAt, Instr.sureAddr, Sem.run_bind, Sem.run_pure, Result.andThen_ok, storeVar, hs, hsz, ne_eq, not_true_eq_false, if_false, this, List.append_assoc]

theorem cellsV_eq {g : Bool} {x : SV} (hcl : cl x = true) (hf : fitsB g x = true) : cellsV x = (den η x).cells.toList := by
  rcases fits_or hf with h | h
  · rw [cellsV_den (η := η) hcl h]; rfl
  · have hg : isG x = false := by cases x <;> first | rfl | cases h
    rw [cellsV_one (η := η) hcl hg, cells_one _ (plain_one η x h)]

theorem take_splice (l new : List Value) (o n k : Nat) (hn : new.length = n) (h1 : o + n ≤ k) (h2 : k ≤ l.length) :
    (l.take o ++ (new ++ l.drop (o + n))).take k = (l.take k).take o ++ (new ++ (l.take k).drop (o + n)) := by
  have ho : (l.take o).length = o := by rw [List.length_take]; omega
  have e1 : (l.take k).take o = l.take o := by rw [List.take_take, Nat.min_eq_left (by omega)]
  have e2 : (l.take k).drop (o + n) = (l.drop (o + n)).take (k - (o + n)) := by rw [List.drop_take]
  rw [take_app _ _ _ _ ho (by omega), take_app _ _ _ _ hn (by omega), e1, e2]
  congr 3
  omega

theorem splice_sub (l new : List Value) (o j k : Nat) (h : j + 1 ≤ k) :
    l.take o ++ (((l.drop o).take k).take j ++ (new ++ ((l.drop o).take k).drop (j + 1)) ++ l.drop (o + k)) = l.take (o + j) ++ (new ++ l.drop (o + j + 1)) := by
  have e1 : ((l.drop o).take k).take j = (l.drop o).take j := by rw [List.take_take, Nat.min_eq_left (by omega)]
  have e2 : ((l.drop o).take k).drop (j + 1) ++ l.drop (o + k) = l.drop (o + j + 1) := by
    rw [List.drop_take, List.drop_drop]
    have : l.drop (o + k) = (l.drop (o + j + 1)).drop (k - (j + 1)) := by rw [List.drop_drop]; congr 1; omega
    rw [this, show o + (j + 1) = o + j + 1 from rfl, List.take_append_drop]
  rw [List.take_add, e1, List.append_assoc, List.append_assoc, List.append_assoc, e2]

theorem ints_set (k : Nat) (kd : IntKind) (f : Nat → Int) (j : Nat) (v : Int) (hj : j < k) :
    ints k kd (fun i => if i = j then v else f i) = (ints k kd f).take j ++ ([.int kd v] ++ (ints k kd f).drop (j + 1)) := by
  apply List.ext_getElem?
  intro i
  have hl : (ints k kd f).length = k := ints_length k kd f
  have ht : ((ints k kd f).take j).length = j := by rw [List.length_take]; omega
  have hg : ∀ (g : Nat → Int) i, (ints k kd g)[i]? = if i < k then some (.int kd (g i)) else none := by
    intro g i
    unfold ints
    rw [List.getElem?_map]
    by_cases h : i < k
    · simp [h]
    · simp [h]
  rw [hg]
  rcases Nat.lt_trichotomy i j with h | h | h
  · rw [List.getElem?_append_left (by omega), List.getElem?_take, if_pos h, hg]
    simp [Nat.ne_of_lt h]
  · subst h
    rw [List.getElem?_append_right (by omega), ht]
    simp [hj]
  · rw [List.getElem?_append_right (by omega), ht, List.getElem?_append_right (by simp; omega), List.getElem?_drop, hg]
    have : j + 1 + (i - j - [Value.int kd v].length) = i := by simp; omega
    rw [this]
    simp [Nat.ne_of_gt h]

include hT hG in
theorem storeE_sound {t : TypeId} {x v : SV} {K : St → Prop} (h : storeE T st t x v K) :
    ∃ st' w', K st' ∧ (Instr.storeAt t (den η x) (den η v)).run P w = .ok () w' ∧ Good B ops η m st' a w' := by
  have hH := hG.H
  unfold storeE at h
  split at h
  · exact h.elim
  rename_i ti hti
  split at h
  · rename_i n o
    split at h
    · rename_i e cs hl
      split at h
      · rename_i hpos hfit
        obtain ⟨new, h, hnew⟩ := parts_sound h
        obtain ⟨cs', h, hcs'⟩ := putAt_sound h
        obtain ⟨h', h, hh'⟩ := setHK_sound h
        obtain ⟨b, hA, ho, hb⟩ := (hH.ck n _ hl).2
        obtain ⟨hlen, hle, heq⟩ := hcs' η
        have hcells := hnew η (fits_or hfit)
        have hsz : (den η v).cells.size = ti.size := by rw [← Array.length_toList, hcells, hlen]
        have hrun := run_storeAt hT hti (v := den η v) (o := o) hb hsz (by simpa using hle) (fits_one η hfit)
        have hx : den η (.p n o) = .pointer (some ⟨b, o, none⟩) := by simp only [den, hA, Option.map_some, add_base]
        rw [← hx] at hrun
        obtain ⟨sz, tt, gs, hp, nx⟩ := st
        refine ⟨_, _, h, hrun, ⟨?_, ⟨hG.T.sz, hG.T.df, hG.T.sl, hG.T.gs⟩⟩⟩
        refine hH.write hl ho (fun k hk => setRow_other w b k _ hk) (by simp) rfl rfl rfl (c' := .st e cs') ⟨b, hA, ho, ?_⟩ hh'
        rw [setRow_heap w b _ _ e _ hb, heq, hcells]
      · exact h.elim
    · rename_i e z k xs hl
      split at h
      · rename_i hclp hfit
        simp only [Bool.and_eq_true] at hclp
        obtain ⟨hcl, hpos⟩ := hclp
        obtain ⟨⟨hle, hvl⟩, h⟩ := h
        obtain ⟨h', h, hh'⟩ := setHK_sound h
        have hcv := cellsV_eq (η := η) hcl hfit
        have hsz : (den η v).cells.size = ti.size := by rw [← Array.length_toList, ← hcv, hvl]
        obtain ⟨⟨hxl, hx1⟩, ⟨_, hk0, _⟩ | ⟨b, cur, hA, ho, hb, hk, hcm, hcur, htake⟩⟩ := (hH.ck n _ hl).2
        · have hz : ti.size = 0 := by have := hxl; rw [hk0, Nat.zero_mul] at this; omega
          have hp := blt_lt hpos
          omega
        · have hkc : k * z ≤ cur.size := by rw [hcur]; exact Nat.mul_le_mul_right _ hk
          have hrun := run_storeAt hT hti (v := den η v) (o := o) hb hsz (by omega) (fits_one η hfit)
          have hx : den η (.p n o) = .pointer (some ⟨b, o, none⟩) := by simp only [den, hA, Option.map_some, add_base]
          rw [← hx] at hrun
          obtain ⟨sz, tt, gs, hp, nx⟩ := st
          refine ⟨_, _, h, hrun, ⟨?_, ⟨hG.T.sz, hG.T.df, hG.T.sl, hG.T.gs⟩⟩⟩
          refine hH.write hl ho (fun k hk => setRow_other w b k _ hk) (by simp) rfl rfl rfl ?_ hh'
          refine ⟨⟨?_, ?_⟩, .inr ⟨b, _, hA, ho, setRow_heap w b _ _ e _ hb, hk, hcm, ?_, ?_⟩⟩
          · simp only [List.length_append, List.length_take, List.length_drop, hvl]
            omega
          · intro u hu
            simp only [List.mem_append] at hu
            rcases hu with hu | hu | hu
            · exact hx1 u (List.mem_of_mem_take hu)
            · exact fits_one η hfit u (by rw [← hcv]; exact hu)
            · exact hx1 u (List.mem_of_mem_drop hu)
          · simp only [List.size_toArray, List.length_append, List.length_take, List.length_drop, Array.length_toList, hsz]
            omega
          · show List.take _ (_ ++ (_ ++ _)) = _
            rw [take_splice _ _ _ _ _ (by rw [Array.length_toList]; exact hsz) (by omega) (by rw [Array.length_toList]; exact hkc), htake, hcv]
      · exact h.elim
    · exact h.elim
  · rename_i n o j
    split at h
    · rename_i e cs kd v' hl
      split at h
      · rename_i kk hd hs1
        obtain ⟨y, h, hy⟩ := partAt_sound h
        split at h
        · rename_i k kd' f
          split at h
          · rename_i hk
            obtain rfl := sameKind_eq hk
            obtain ⟨hj, h⟩ := h
            obtain ⟨cs', h, hcs'⟩ := putAt_sound h
            obtain ⟨h', h, hh'⟩ := setHK_sound h
            obtain ⟨b, hA, ho, hb⟩ := (hH.ck n _ hl).2
            obtain ⟨hlen, hle, heq⟩ := hcs' η
            have hsz : (den η (.i kd v')).cells.size = ti.size := by rw [hs1]; rfl
            have hrun := run_storeAt hT hti (v := den η (.i kd v')) (o := o + j) hb hsz (by simp; omega) (by intro u hu; simp [den, Value.cells] at hu; subst hu; rfl)
            have hx : den η (.pj n o j) = .pointer (some ⟨b, o + j, none⟩) := by simp only [den, hA, Option.map_some, add_base]
            rw [← hx] at hrun
            obtain ⟨sz, tt, gs, hp, nx⟩ := st
            refine ⟨_, _, h, hrun, ⟨?_, ⟨hG.T.sz, hG.T.df, hG.T.sl, hG.T.gs⟩⟩⟩
            refine hH.write hl ho (fun k hk => setRow_other w b k _ hk) (by simp) rfl rfl rfl (c' := .st e cs') ⟨b, hA, ho, ?_⟩ hh'
            rw [setRow_heap w b _ _ e _ hb, heq, hs1]
            congr 3
            obtain ⟨hyl, hym⟩ := hy η
            simp only [wid] at hyl hym
            have hyi : ints k kd f = ((dens η cs).drop o).take k := by rw [← hym]; simp [dens, pc]
            have e1 : dens η [SV.gi k kd fun i => if i = j then v' else f i] = ints k kd (fun i => if i = j then v' else f i) := by simp [dens, pc]
            rw [e1, ints_set k kd f j v' hj, hyi]
            exact (splice_sub _ _ _ _ k hj).symm
          · exact h.elim
        · exact h.elim
      · exact h.elim
    · exact h.elim
  · exact h.elim
end
end Go.Proofs.YtaeoibnbbpgajaaDoor.Sx
