/- Symbolic execution, sixteenth text: every loud operation is evaluated rightly. -/
import Derived.Test.YtaeoibnbbpgajaaDoorSxOa
namespace Go.Proofs.YtaeoibnbbpgajaaDoor.Sx

theorem flat_get (zs : List Value) (hz : 0 < zs.length) : ∀ (n i : Nat), i < n * zs.length → (repl n zs)[i]? = zs[i % zs.length]?
  | 0, i, h => by simp at h
  | n + 1, i, h => by
    rw [repl, List.replicate_succ, List.flatten_cons]
    by_cases hi : i < zs.length
    · rw [List.getElem?_append_left hi, Nat.mod_eq_of_lt hi]
    · have h2 : i < n * zs.length + zs.length := by rw [← Nat.succ_mul]; exact h
      rw [List.getElem?_append_right (by omega), ← repl, flat_get zs hz n (i - zs.length) (by omega), ← Nat.mod_eq_sub_mod (by omega)]
theorem repl_length (n : Nat) (zs : List Value) : (repl n zs).length = n * zs.length := by simp [repl]
/-- The cells that make lays: the zero value's, over and over. -/
theorem made_repl (z : Array Value) (n k : Nat) (hz : z.size = k) : ((Array.range (n * k)).map (z[· % z.size]!)).toList = repl n z.toList := by
  subst hz
  apply List.ext_getElem?
  intro i
  by_cases hi : i < n * z.size
  · have hp : 0 < z.size := by rcases Nat.eq_zero_or_pos z.size with h | h; rw [h] at hi; omega; exact h
    have hm : i % z.size < z.size := Nat.mod_lt _ hp
    rw [flat_get z.toList (by simpa using hp) n i (by simpa using hi)]
    simp [hi, hm]
  · rw [List.getElem?_eq_none (by simp; omega), List.getElem?_eq_none (by rw [repl_length]; simp; omega)]
theorem repl_take (zs : List Value) (n k : Nat) (h : k ≤ n) : (repl n zs).take (k * zs.length) = repl k zs := by
  obtain ⟨d, rfl⟩ : ∃ d, n = k + d := ⟨n - k, by omega⟩
  rw [repl, ← List.replicate_append_replicate, List.flatten_append, ← repl, List.take_left' (repl_length k zs)]

section
variable {P : Program} {T : Tbl} (hT : TOk P T) {B : Base} {ops : List Oper} {η : Names} {m : Mem} {st : St} {a : Act} {w : World} (hG : Good B ops η m st a w)

include hT hG in
theorem makeE_sound {t : TypeId} {l c : SV} {K : SV → St → Prop} (h : makeE T st t l c K) :
    ∃ v η' st' w', K v st' ∧ (Instr.makeSlice t (den η l) (den η c)).run P w = .ok (den η' v) w' ∧ Good B ops η' m st' a w' := by
  unfold makeE at h
  split at h
  case h_2 => exact h.elim
  rename_i ti x y hti
  split at h
  case h_2 => exact h.elim
  rename_i e hd
  have hu := (hT t ti hti).1
  rw [hd] at hu
  split at h
  case h_2 => exact h.elim
  rename_i te hte
  obtain ⟨_, hzcl, hzsz, hzg, ⟨i, hi, hisz, hiby, hiz⟩, _⟩ := hT e te hte
  split at h
  case h_2 => exact h.elim
  rename_i hfit
  obtain ⟨⟨h0, h1, hby, hml⟩, h⟩ := h
  have hcv := cellsV_eq (η := η0) hzcl hfit
  have hrun := run_make (P := P) w t e i _ hu hi hiz .i64 .i64 x y h0 h1 (by rw [hiby]; rw [Int.mul_comm]; omega) (by omega)
  have hzl : (cellsV te.z).length = te.size := by rw [hcv, Array.length_toList, hzsz]
  have hml' : (madeCells (den η0 te.z).cells (y.toNat * i.size)).toList = repl y.toNat (cellsV te.z) := by
    rw [hisz, hcv]
    exact made_repl _ _ _ hzsz
  obtain ⟨v, η', st', hk, hg, hv⟩ := newRow_sound hG (cap := y.toNat) (cur := madeCells (den η0 te.z).cells (y.toNat * i.size)) h (by rw [repl_length, hzl])
    (by
      intro u hu
      simp only [repl, List.mem_flatten, List.mem_replicate] at hu
      obtain ⟨l, ⟨_, rfl⟩, hu⟩ := hu
      exact fits_one η0 hfit u (by rw [← hcv]; exact hu))
    (by omega) (by simp only [maxLen]; omega) (by rw [← Array.length_toList, hml', repl_length, hzl]) (by rw [hml', ← hzl]; exact repl_take _ _ _ (by omega))
  exact ⟨v, η', st', _, hk, by simp only [den]; rw [hrun, hv], hg⟩

theorem repK_sound {K : List SV → Prop} : ∀ {n : Nat} {zs acc : List SV}, buildSliceE.repK n zs acc K → ∃ r, K r ∧ ∀ η, dens η r = repl n (dens η zs) ++ dens η acc
  | 0, zs, acc, h => ⟨acc, h, fun η => by simp [repl]⟩
  | n + 1, zs, acc, h => by
    simp only [buildSliceE.repK, appK_eq] at h
    obtain ⟨r, hk, hr⟩ := repK_sound h
    refine ⟨r, hk, fun η => ?_⟩
    rw [hr, dens_append, ← List.append_assoc]
    congr 1
    simp only [repl, List.replicate_succ', List.flatten_append, List.flatten_singleton]

include hT hG in
theorem buildSliceE_sound {t : TypeId} {n : Nat} {ps : List (Nat × SV)} {K : SV → St → Prop} (h : buildSliceE T st t n ps K) {qs : Array (Nat × Value)} (hq : qs.toList = ps.map fun p => (p.1, den η p.2)) :
    ∃ v η' st' w', K v st' ∧ (Instr.buildSlice t n qs).run P w = .ok (den η' v) w' ∧ Good B ops η' m st' a w' := by
  unfold buildSliceE at h
  split at h
  case h_2 => exact h.elim
  rename_i ti hti
  split at h
  case h_2 => exact h.elim
  rename_i e hd
  have hu := (hT t ti hti).1
  rw [hd] at hu
  split at h
  case h_2 => exact h.elim
  rename_i te hte
  have hs := run_size hT (w := w) hte
  obtain ⟨_, hzcl, hzsz, hzg, ⟨i, hi, hisz, hiby, hiz⟩, _⟩ := hT e te hte
  have hzr := run_zero hT η0 (w := w) hte
  split at h
  case h_2 => exact h.elim
  rename_i hfit
  obtain ⟨zs, h, hzs⟩ := parts_sound h
  obtain ⟨zz, h, hzz⟩ := repK_sound h
  obtain ⟨cs, h, hf, hfl⟩ := fillA_sound η h
  split at h
  case h_2 => exact h.elim
  rename_i hcl hle
  simp only [Bool.and_eq_true] at hcl hle
  have hle1 := ble_le hle.1
  have hle2 := ble_le hle.2
  have hzl := hzs η (fits_or hfit)
  have hz0 : (den η te.z).cells.size = te.size := by rw [den_cl η η0 te.z hzcl]; exact hzsz
  have hbase : ((Array.range (n * te.size)).map ((den η te.z).cells[· % (den η te.z).cells.size]!)) = (dens η zz).toArray := by
    apply Array.ext'
    rw [made_repl _ _ _ hz0, hzl]
    simp only [hzz η, dens, List.append_nil]
  have hlen : (dens η cs).length = n * te.size := by
    rw [hfl, hzz η, List.length_append, repl_length, ← hzl, Array.length_toList, hz0]
    simp [dens]
  have hde : dens η0 cs = dens η cs := dens_cl η0 η cs hcl.1
  obtain ⟨v, η', st', hk, hg, hv⟩ := newRow_sound hG (cap := n) (cur := (dens η cs).toArray) h (by rw [hde, hlen]) (plains_one η0 hcl.2) (Nat.le_refl _) (by simp only [maxLen]; omega) (by simpa using hlen)
    (by rw [hde, ← hlen]; simp)
  refine ⟨v, η', st', _, hk, ?_, hg⟩
  have hzr := run_zero hT η (w := w) hte
  have hn24 : ¬ (n * te.size > 2 ^ 24) := by omega
  by_cases h0 : n * te.size = 0
  · have hzz0 : dens η zz = [] := by
      have := hfl; rw [hlen, h0] at this
      exact List.eq_nil_of_length_eq_zero this.symm
    rw [hzz0] at hf
    have hl0 : ¬ (0 > 2 ^ 24) := by omega
    simp only [Instr.buildSlice, Sem.run_bind, run_underlying hu, Result.andThen_ok, hs, h0, if_neg hl0, if_true, Sem.run_pure, hq]
    have hr0 : Array.map (fun x => (#[] : Array Value)[x % (#[] : Array Value).size]!) (Array.range 0) = #[] := by simp
    rw [hr0, hf, hv]
    rfl
  · simp only [Instr.buildSlice, Sem.run_bind, run_underlying hu, Result.andThen_ok, hs, if_neg hn24, h0, if_false, hzr, Sem.run_pure, hbase, hq]
    rw [hf, hv]
    rfl

/-- A function that has a body and is called as any other. -/
def Callable (P : Program) (f : FuncId) : Prop := ∃ fn, P.funcs[f]? = some fn ∧ (fn.name == "runtime.NumGoroutine") = false ∧ fn.body.isNone = false

/-- What is to be shown of calls: what the evaluator lays at a call is enough for the call. -/
def CPOk (P : Program) (CP : CallP) : Prop := ∀ (f : FuncId) (xs : List SV) (st : St) (m : Mem) (K : Out → St → Mem → Prop), CP f xs st m K →
  Callable P f ∧ ∀ (B : Base) (ops : List Oper) (η : Names) (a : Act) (w : World), Good B ops η m st a w →
    Calls P f (dent η xs).toArray w fun e w' => ∃ o η' st' m', K o st' m' ∧ Good B ops η' m' st' a w' ∧
      (match o with | .ret x => e = .returned (den η' x) | .pan x => e = .panicked [{ v := den η' x, recovered := false }])

theorem run_callFunc {f : FuncId} (h : Callable P f) (args : Array Value) : (callFunc f args).run P w = .ok (.enter f args) w := by
  obtain ⟨fn, hf, hn, hb⟩ := h
  have hp : program.run P w = .ok P w := rfl
  simp only [callFunc, Sem.run_bind, hp, Result.andThen_ok, hf, hn, hb, Bool.false_eq_true, if_false]
  rfl

theorem dent_append (η : Names) : ∀ a b : List SV, dent η (a ++ b) = dent η a ++ dent η b
  | [], _ => rfl
  | x :: r, b => by simp only [List.cons_append, dent, dent_append η r b]

include hT hG in
theorem loudV_sound {CP : CallP} (hCP : CPOk P CP) {o : Oper} {K KP : SV → St → Mem → Prop} (h : loudV T CP st m o.op K KP) {Q : Exit → Act → World → Prop} {next : Act → World → Prop}
    (hnext : ∀ x η' st' m' w', K x st' m' → Good B ops η' m' st' a w' → next (a.put o.dst (den η' x)) w')
    (hpan : ∀ x η' st' m' w', KP x st' m' → Good B ops η' m' st' a w' → Q (.panic [{ v := den η' x, recovered := false }]) a w') : o.wp P a w next Q := by
  have ht := hG.T
  obtain ⟨dst, op, ty, pos, after, guard⟩ := o
  simp only [Oper.wp]
  cases op <;> first | exact h.elim | skip
  case alloc t =>
    simp only [loudV] at h
    split at h
    case h_2 => exact h.elim
    rename_i ti hti
    have hz := run_zero hT η (w := w) hti
    split at h
    case h_2 => exact h.elim
    rename_i hfit
    obtain ⟨cs, h, hcs⟩ := parts_sound h
    obtain ⟨x, η', st', hk, hg, hx⟩ := newSt_sound hG h
    have hc := hcs η (fits_or hfit)
    have hrun : (execOp a.eval ⟨dst, .alloc t, ty, pos, after, guard⟩).run P w = .ok (.value (den η' x)) (w.alloc (.cells (dens η cs).toArray t)) := by
      simp only [execOp, Instr.alloc, newVar, Sem.run_bind, hz, Result.andThen_ok]
      rw [hx, ← hc, Array.toArray_toList]
      rfl
    rw [hrun]
    exact hnext _ _ _ _ _ hk hg
  case box t x =>
    simp only [loudV] at h
    obtain ⟨v, h, hv⟩ := argAt_sound ht h
    have hv := hv rfl
    split at h
    case h_2 => exact h.elim
    rename_i ti hti
    split at h
    case h_2 => exact h.elim
    rename_i hfit
    obtain ⟨cs, h, hcs⟩ := parts_sound h
    obtain ⟨x', η', st', hk, hg, hx⟩ := newSt_sound hG h
    have hc := hcs η (fits_or hfit)
    have hrun : (execOp a.eval ⟨dst, .box t x, ty, pos, after, guard⟩).run P w = .ok (.value (den η' x')) (w.alloc (.cells (dens η cs).toArray t)) := by
      simp only [execOp, hv, Instr.box, newVar, Sem.run_bind]
      rw [hx, ← hc, Array.toArray_toList]
      rfl
    rw [hrun]
    exact hnext _ _ _ _ _ hk hg
  case store t x v =>
    simp only [loudV] at h
    obtain ⟨u, h, hu⟩ := argAt_sound ht h
    obtain ⟨v0, h, hv⟩ := argAt_sound ht h
    obtain ⟨v', st1, m1, h, hG1, hvv⟩ := sealIn_sound hG h
    obtain ⟨st', w', hk, hr, hg⟩ := storeE_sound hT hG1 h
    have hrun : (execOp a.eval ⟨dst, .store t x v, ty, pos, after, guard⟩).run P w = .ok .skip w' := by
      rw [hvv] at hr
      simp only [execOp, hu rfl, hv rfl, Sem.run_bind, hr, Result.andThen_ok]
      rfl
    rw [hrun]
    exact hnext _ η _ _ _ hk hg
  case slice t x lo hi mx =>
    cases mx with
    | some _ => exact h.elim
    | none =>
      simp only [loudV] at h
      obtain ⟨v, h, hv⟩ := argAt_sound ht h
      obtain ⟨l, h, hlo⟩ := optArg_sound ht h
      obtain ⟨u, h, hhi⟩ := optArg_sound ht h
      obtain ⟨vs, st', m', h, hg, _, h2⟩ := sealXs_sound h hG
      rcases vs with _ | ⟨y, _ | ⟨z, l2⟩⟩
      · exact h.elim
      · simp only [dent, List.cons.injEq, and_true] at h2
        obtain ⟨r, hk, hr⟩ := sliceV_sound (η := η) (m := m') hT (C := fun c => c) (Tg := True) (fun c hc _ => hc) h
        have hr := hr w hg.H.hq trivial
        rw [h2] at hr
        have hrun : (execOp a.eval ⟨dst, .slice t x lo hi none, ty, pos, after, guard⟩).run P w = .ok (.value (den η r)) w := by
          simp only [execOp, hv rfl, hlo rfl, hhi rfl, Option.map_none, Sem.run_bind, hr, Result.andThen_ok]
          rfl
        rw [hrun]
        exact hnext _ _ _ _ _ hk hg
      · exact h.elim
  case convert s d x =>
    simp only [loudV] at h
    obtain ⟨v, h, hv⟩ := argAt_sound ht h
    obtain ⟨r, st', m', w', hk, hr, hg⟩ := bytesE_sound hT hG h
    have hrun : (execOp a.eval ⟨dst, .convert s d x, ty, pos, after, guard⟩).run P w = .ok (.value (den η r)) w' := by
      simp only [execOp, hv rfl, Sem.run_bind, hr, Result.andThen_ok]
      rfl
    rw [hrun]
    exact hnext _ η _ _ _ hk hg
  case makeSlice t l c =>
    simp only [loudV] at h
    obtain ⟨l', h, hl⟩ := argAt_sound ht h
    obtain ⟨c', h, hc⟩ := argAt_sound ht h
    obtain ⟨v, η', st', w', hk, hr, hg⟩ := makeE_sound hT hG h
    have hrun : (execOp a.eval ⟨dst, .makeSlice t l c, ty, pos, after, guard⟩).run P w = .ok (.value (den η' v)) w' := by
      simp only [execOp, hl rfl, hc rfl, Sem.run_bind, hr, Result.andThen_ok]
      rfl
    rw [hrun]
    exact hnext _ _ _ _ _ hk hg
  case buildSlice t n ps =>
    simp only [loudV] at h
    obtain ⟨vs, h, hvs⟩ := pairs_sound ht h
    obtain ⟨vs', st1, m1, h, hG1, hvv⟩ := sealPs_sound h hG
    have hps : (ps.map fun (p : Nat × Operand) => (p.1, a.eval p.2)).toList = vs'.map fun p => (p.1, den η p.2) := by rw [Array.toList_map, hvv]; exact hvs rfl
    obtain ⟨v, η', st', w', hk, hr, hg⟩ := buildSliceE_sound hT hG1 h hps
    have hrun : (execOp a.eval ⟨dst, .buildSlice t n ps, ty, pos, after, guard⟩).run P w = .ok (.value (den η' v)) w' := by
      simp only [execOp, Sem.run_bind]
      rw [hr]
      rfl
    rw [hrun]
    exact hnext _ _ _ _ _ hk hg
  case call c =>
    obtain ⟨callee, args, argTypes⟩ := c
    cases callee
    case invoke => exact h.elim
    case builtin b =>
      cases b <;> first | exact h.elim | skip
      simp only [loudV] at h
      obtain ⟨xs, hq, hxs⟩ := argsAt_sound ht h
      clear h
      revert hq
      intro h
      split at h
      case h_2 => exact h.elim
      rename_i t u s x hts
      have hat : argTypes = #[t, u] := by rw [← Array.toList_inj]; exact hts
      subst hat
      have hargs : (args.map a.eval) = #[den η s, den η x] := by rw [← Array.toList_inj, Array.toList_map]; exact hxs rfl
      split at h
      case h_2 => exact h.elim
      rename_i tu htu
      have huu := (hT u tu htu).1
      have hor : (∃ e', P.underlying u = some (.slice e')) ∨ P.underlying u = some .string := by
        split at h
        · rename_i e' hd; rw [hd] at huu; exact .inl ⟨e', huu⟩
        · rename_i hd; rw [hd] at huu; exact .inr huu
        · exact h.elim
      have happ : appendE T st m t s x fun x st => K x st m := by
        split at h
        · exact h
        · exact h
        · exact h.elim
      obtain ⟨v, η', st', w', hk, hr, hg⟩ := appendE_sound hT hG (ty := ty) hor happ
      have hrun : (execOp a.eval ⟨dst, .call ⟨.builtin .append, args, #[t, u]⟩, ty, pos, after, guard⟩).run P w = .ok (.value (den η' v)) w' := by
        simp only [execOp, resolve, Sem.run_bind, Sem.run_pure, Result.andThen_ok, invoke, builtin, hargs, hr]
      rw [hrun]
      exact hnext _ _ _ _ _ hk hg
    case value f =>
      simp only [loudV] at h
      obtain ⟨f', h, hf⟩ := argAt_sound ht h
      obtain ⟨xs, h, hxs⟩ := argsAt_sound ht h
      split at h
      case h_2 => exact h.elim
      rename_i fid first caught hold
      clear hold
      rw [appK_eq, appK_eq] at h
      obtain ⟨hcall, hc⟩ := hCP _ _ _ _ _ h
      have hargs : (args.map a.eval) = (dent η xs).toArray := by rw [← Array.toList_inj, Array.toList_map]; exact hxs rfl
      have hrun : (execOp a.eval ⟨dst, .call ⟨.value f, args, argTypes⟩, ty, pos, after, guard⟩).run P w = .ok (.enter fid (dent η (first ++ xs ++ caught)).toArray) w := by
        simp only [execOp, resolve, hf rfl, den, Deferred.ofValue, Sem.run_bind, Sem.run_pure, Result.andThen_ok, invoke, hargs]
        rw [run_callFunc hcall]
        simp only [dent_append, List.append_toArray]
      rw [hrun]
      refine (hc B ops η a w hG).mono fun e w' ⟨o, η', st', m', hk, hg, he⟩ => ?_
      cases o with
      | ret x =>
        simp only at he
        subst he
        simp only [force_eq] at hk
        exact hnext _ _ _ _ _ hk hg
      | pan x =>
        simp only at he
        subst he
        exact hpan _ _ _ _ _ hk hg
end
end Go.Proofs.YtaeoibnbbpgajaaDoor.Sx
