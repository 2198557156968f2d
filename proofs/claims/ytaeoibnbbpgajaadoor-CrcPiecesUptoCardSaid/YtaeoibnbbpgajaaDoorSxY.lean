/- Symbolic execution, twenty-fifth text: a call by what is stated is a call. -/
import Derived.Test.YtaeoibnbbpgajaaDoorSxX
namespace Go.Proofs.YtaeoibnbbpgajaaDoor.Sx

/-- The blocks that a call is handed as its own. -/
def modsOf (η : Names) : Heap → List Nat
  | [] => []
  | (n, _) :: r => (match (η n).own with | some b => [b] | none => []) ++ modsOf η r
theorem modsOf_in {η : Names} {b : Nat} : ∀ {h : Heap} {n : Nat} {c : Ck}, lookH h n = some c → (η n).own = some b → b ∈ modsOf η h
  | (i, d) :: r, n, c, hl, ho => by
    simp only [lookH] at hl
    simp only [modsOf, List.mem_append]
    split at hl
    · rename_i hb
      obtain rfl := beq_eq hb
      exact .inl (by rw [ho]; simp)
    · exact .inr (modsOf_in hl ho)
theorem modsOf_out {η : Names} {b : Nat} : ∀ {h : Heap}, b ∈ modsOf η h → ∃ n c, lookH h n = some c ∧ (η n).own = some b
  | (i, d) :: r, hm => by
    simp only [modsOf, List.mem_append] at hm
    rcases hm with hm | hm
    · refine ⟨i, d, by simp [lookH, Nat.beq_refl], ?_⟩
      cases ho : (η i).own with
      | none => rw [ho] at hm; cases hm
      | some b' => rw [ho] at hm; simp only [List.mem_singleton] at hm; rw [hm]
    · obtain ⟨n, c, hl, ho⟩ := modsOf_out hm
      by_cases hin : i = n
      · subst hin
        exact ⟨i, d, by simp [lookH, Nat.beq_refl], ho⟩
      · exact ⟨n, c, by simp only [lookH, beq_ne hin]; exact hl, ho⟩

section
variable {P : Program} {B : Base} {η : Names} {m : Mem} {st : St} {a : Act} {w : World}

/-- What a callee begins with. -/
theorem Hold.enter {h0 h2 : Heap} {nx nx2 : Nat} (hH : Hold B η m h0 nx w) {σ : Ren} (hd : HpOk nx2 [] h2 h0 σ) {J : Mem} (hJ : ∀ x o, J x = some o → m x = some o) :
    Hold ⟨w, modsOf (ηOf σ η) h2, J, nx2, ηOf σ η⟩ (ηOf σ η) J h2 nx2 w := by
  have hH0 : Hold ⟨B.w0, B.mods, B.m0, 0, B.η0⟩ η m h0 nx w := ⟨hH.imm, hH.ck, hH.own, hH.apart, hH.old, hH.size, hH.os, hH.tape, hH.output, hH.mle, hH.mnew, Nat.zero_le _, fun n hn => absurd hn (Nat.not_lt_zero n)⟩
  have h1 := hH0.ren hd ⟨Nat.zero_le _, fun n hn => absurd hn (Nat.not_lt_zero n)⟩
  refine ⟨fun b o hb => h1.imm b o (hJ b o hb), h1.ck, fun n c b hl ho => ⟨?_, (h1.own n c b hl ho).2.1, .inl (modsOf_in hl ho)⟩, h1.apart, fun _ _ _ => rfl, Nat.le_refl _, rfl, rfl, rfl, fun _ _ h => h, fun _ _ h => .inl h, Nat.le_refl _, fun _ _ => rfl⟩
  cases hj : J b with
  | none => rfl
  | some o =>
    have := (h1.own n c b hl ho).1
    rw [hJ b o hj] at this
    cases this

/-- What a caller goes on with. -/
theorem Good.back {l : List Oper} (hG : Good B l η m st a w) {s : Spec} {x : s.A} {b : s.Bb} {σ : Ren} (hd : HpOk s.nx [] (s.h x) st.h σ) (hR : okR s.nx st.nx σ = true) (hok : okSt st = true) {J J' m' : Mem} (hm1 : ∀ y o, m y = some o → m' y = some o) (hm2 : ∀ y o, m' y = some o → m y = some o ∨ (J' y = some o ∧ J y = none))
    {h0 : Heap} (h0l : ∀ k c, lookH h0 k = some c → lookH st.h k = some c ∧ ∀ n d, lookH (s.h x) n = some d → find σ n ≠ some (.nm k))
    {w' : World} {η2 : Names} (hH2 : Hold ⟨w, modsOf (ηOf σ η) (s.h x), J, s.nx, ηOf σ η⟩ η2 J' (s.h2 x b) s.nx2 w') {h' : Heap}
    (hh : ∀ k c, lookH h' k = some c → (∃ n c0, lookH (s.h2 x b) n = some c0 ∧ k = rn σ st.nx n ∧ ∀ η' η2 w, RnOk σ st.nx η' η2 → CkAt η2 w n c0 → CkAt η' w (rn σ st.nx n) c) ∨ lookH h0 k = some c) :
    ∃ η', RnOk σ st.nx η' η2 ∧ Good B l η' m' ⟨st.sz, st.t, st.gs, h', st.nx + s.nx2⟩ a w' := by
  obtain ⟨sz, t, gs, hp, nx⟩ := st
  simp only [okSt, Bool.and_eq_true] at hok
  have hH := hG.H
  simp only at hH hd h0l
  have hag : Agree nx η (fun n => if n < nx then η n else η2 (n - nx)) := fun n hn => by simp [hn]
  have hrn : RnOk σ nx (fun n => if n < nx then η n else η2 (n - nx)) η2 := by
    intro n
    unfold rn
    split
    · rename_i c hf
      obtain ⟨h1, h2⟩ := okR_sound hR n c hf
      simp only [h2, if_true]
      rw [hH2.par.2 n h1]
      exact (ηOf_nm hf η).symm
    · have : ¬ nx + n < nx := by omega
      simp [this]
  generalize hη' : (fun n => if n < nx then η n else η2 (n - nx)) = η' at hag hrn
  have hmods : ∀ y, y ∈ modsOf (ηOf σ η) (s.h x) → ∃ n d k c, lookH (s.h x) n = some d ∧ find σ n = some (.nm k) ∧ lookH hp k = some c ∧ (η k).own = some y := by
    intro y hy
    obtain ⟨n, d, hl, ho⟩ := modsOf_out hy
    rcases (hd.ck n d hl).2 with ⟨k, c, hf, hlk, _⟩ | ⟨A, e, z, hf, _⟩
    · rw [ηOf_nm hf] at ho
      exact ⟨n, d, k, c, hl, hf, hlk, ho⟩
    · rw [ηOf_nil hf] at ho
      cases ho
  have hmm : ∀ y, y ∈ modsOf (ηOf σ η) (s.h x) → m y = none ∧ y < w.heap.size ∧ (y ∈ B.mods ∨ B.w0.heap.size ≤ y) := by
    intro y hy
    obtain ⟨n, d, k, c, _, _, hlk, ho⟩ := hmods y hy
    exact hH.own k c y hlk ho
  have hold0 : ∀ y, y < w.heap.size → y ∉ modsOf (ηOf σ η) (s.h x) → w'.heap[y]? = w.heap[y]? := fun y h1 h2 => hH2.old y h1 h2
  have hs : w.heap.size ≤ w'.heap.size := hH2.size
  have hfresh : ∀ k c y, lookH h0 k = some c → (η k).own = some y → y < w.heap.size ∧ y ∉ modsOf (ηOf σ η) (s.h x) := by
    intro k c y hl ho
    obtain ⟨hl1, hn⟩ := h0l k c hl
    refine ⟨(hH.own k c y hl1 ho).2.1, fun hy => ?_⟩
    obtain ⟨n, d, k', c', hln, hf, hlk, ho'⟩ := hmods y hy
    by_cases hkk : k = k'
    · subst hkk
      exact hn n d hln hf
    · exact hH.apart k c k' c' y hl1 hlk hkk ho ho'
  have hk0 : ∀ k c, lookH h0 k = some c → k < nx ∧ okC nx c = true ∧ η' k = η k := by
    intro k c hl
    obtain ⟨h1, h2⟩ := okH_look hok.2 (h0l k c hl).1
    exact ⟨h1, h2, hag k h1⟩
  refine ⟨η', hrn, ⟨⟨fun y o hy => ?_, fun k c hl => ?_, fun k c y hl ho => ?_, fun k c k' c' y hl hl' hne ho ho' => ?_, fun y hy hym => ?_, Nat.le_trans hH.size hs, hH2.os.trans hH.os, hH2.tape.trans hH.tape, hH2.output.trans hH.output, fun y o hy => hm1 y o (hH.mle y o hy), fun y o hy => ?_, Nat.le_trans hH.par.1 (Nat.le_add_right _ _), fun n hn => ?_⟩, ?_⟩⟩
  · rcases hm2 y o hy with hy | ⟨hy, _⟩
    · rw [hold0 y (heap_lt (hH.imm y o hy)) (fun h => by rw [(hmm y h).1] at hy; cases hy)]
      exact hH.imm y o hy
    · exact hH2.imm y o hy
  · rcases hh k c hl with ⟨n, c0, hln, rfl, hc⟩ | hl
    · obtain ⟨hn, hck⟩ := hH2.ck n c0 hln
      refine ⟨?_, hc η' η2 w' hrn hck⟩
      unfold rn
      split
      · rename_i y hf
        exact Nat.lt_of_lt_of_le (okR_sound hR n y hf).2 (Nat.le_add_right _ _)
      · simp only
        omega
    · obtain ⟨h1, h2, h3⟩ := hk0 k c hl
      refine ⟨Nat.lt_of_lt_of_le h1 (Nat.le_add_right _ _), (hH.ck k c (h0l k c hl).1).2.kept h3 (fun e cs hcs => ?_) (fun y hy => ?_)⟩
      · subst hcs
        exact dens_ok hag cs h2
      · obtain ⟨e1, e2⟩ := hfresh k c y hl hy
        exact hold0 y e1 e2
  · rcases hh k c hl with ⟨n, c0, hln, rfl, hc⟩ | hl
    · rw [hrn n] at ho
      obtain ⟨g0, h2, h3⟩ := hH2.own n c0 y hln ho
      have no : m y = none → m' y = none := by
        intro hy
        cases hy' : m' y with
        | none => rfl
        | some o =>
          rcases hm2 y o hy' with h4 | ⟨h4, _⟩
          · rw [hy] at h4; cases h4
          · rw [g0] at h4; cases h4
      rcases h3 with h3 | h3
      · obtain ⟨g1, _, g3⟩ := hmm y h3
        exact ⟨no g1, h2, g3⟩
      · refine ⟨no ?_, h2, .inr (Nat.le_trans hH.size h3)⟩
        cases hy : m y with
        | none => rfl
        | some o =>
          have := heap_lt (hH.imm y o hy)
          simp only at h3
          omega
    · obtain ⟨h1, h2, h3⟩ := hk0 k c hl
      rw [h3] at ho
      obtain ⟨g1, g2, g3⟩ := hH.own k c y (h0l k c hl).1 ho
      refine ⟨?_, Nat.lt_of_lt_of_le g2 hs, g3⟩
      cases hy : m' y with
      | none => rfl
      | some o =>
        rcases hm2 y o hy with h4 | ⟨h4, h5⟩
        · rw [g1] at h4; cases h4
        · obtain ⟨e1, e2⟩ := hfresh k c y hl ho
          rcases hH2.mnew y o h4 with h6 | h6 | h6
          · simp only at h6; rw [h5] at h6; cases h6
          · simp only at h6; omega
          · exact absurd h6 e2
  · have mix : ∀ n c0 k c y, lookH (s.h2 x b) n = some c0 → (η2 n).own = some y → lookH h0 k = some c → (η k).own = some y → False := by
      intro n c0 k c y hln ho hl ho'
      obtain ⟨e1, e2⟩ := hfresh k c y hl ho'
      rcases (hH2.own n c0 y hln ho).2.2 with h3 | h3
      · exact e2 h3
      · simp only at h3
        omega
    rcases hh k c hl with ⟨n, c0, hln, rfl, _⟩ | hl <;> rcases hh k' c' hl' with ⟨n', c0', hln', rfl, _⟩ | hl'
    · rw [hrn n] at ho
      rw [hrn n'] at ho'
      exact hH2.apart n c0 n' c0' y hln hln' (fun e => hne (by rw [e])) ho ho'
    · rw [hrn n] at ho
      rw [(hk0 k' c' hl').2.2] at ho'
      exact mix n c0 k' c' y hln ho hl' ho'
    · rw [hrn n'] at ho'
      rw [(hk0 k c hl).2.2] at ho
      exact mix n' c0' k c y hln' ho' hl ho
    · rw [(hk0 k c hl).2.2] at ho
      rw [(hk0 k' c' hl').2.2] at ho'
      exact hH.apart k c k' c' y (h0l k c hl).1 (h0l k' c' hl').1 hne ho ho'
  · rw [hold0 y (Nat.lt_of_lt_of_le hy hH.size) (fun h => ?_)]
    · exact hH.old y hy hym
    · rcases (hmm y h).2.2 with h3 | h3
      · exact hym h3
      · omega
  · rcases hm2 y o hy with h4 | ⟨h4, h5⟩
    · exact hH.mnew y o h4
    · rcases hH2.mnew y o h4 with h6 | h6 | h6
      · simp only at h6; rw [h5] at h6; cases h6
      · simp only at h6
        exact .inr (.inl (Nat.le_trans hH.size h6))
      · exact .inr ((hmm y h6).2.2.symm)
  · rw [hag n (Nat.lt_of_lt_of_le hn hH.par.1)]
    exact hH.par.2 n hn
  · exact hG.T.names hok.1 hag rfl rfl rfl

theorem callK_sound {l : List Oper} {s : Spec} {x : s.A} {b : s.Bb} {σ : Ren} {h0 : Heap} {m' : Mem} {K : Out → St → Mem → Prop} {w' : World} {η2 : Names} {e : Ending} (h : callK s x σ st h0 m' K b) (he : e = (s.out x b).ends η2)
    (hb : ∀ h', (∀ k c, lookH h' k = some c → (∃ n c0, lookH (s.h2 x b) n = some c0 ∧ k = rn σ st.nx n ∧ ∀ η' η2 w, RnOk σ st.nx η' η2 → CkAt η2 w n c0 → CkAt η' w (rn σ st.nx n) c) ∨ lookH h0 k = some c) →
      ∃ η', RnOk σ st.nx η' η2 ∧ Good B l η' m' ⟨st.sz, st.t, st.gs, h', st.nx + s.nx2⟩ a w') :
    ∃ o η' st' m', K o st' m' ∧ Good B l η' m' st' a w' ∧ (match o with | .ret x => e = .returned (den η' x) | .pan x => e = .panicked [{ v := den η' x, recovered := false }]) := by
  obtain ⟨sz, t, gs, hp, nx⟩ := st
  simp only [callK, forceN_eq] at h
  split at h
  · rename_i y hy
    obtain ⟨y', h, hy'⟩ := rnV_sound h
    obtain ⟨h', h, hh⟩ := rnH_sound h
    obtain ⟨η', hrn, hG'⟩ := hb h' hh
    refine ⟨_, η', _, _, h, hG', ?_⟩
    rw [he, hy]
    simp only [Out.ends, (hy' η' η2 hrn).1]
  · rename_i y hy
    obtain ⟨y', h, hy'⟩ := rnV_sound h
    obtain ⟨h', h, hh⟩ := rnH_sound h
    obtain ⟨η', hrn, hG'⟩ := hb h' hh
    refine ⟨_, η', _, _, h, hG', ?_⟩
    rw [he, hy]
    simp only [Out.ends, (hy' η' η2 hrn).1]

theorem callS_sound {f : FuncId} {s : Spec} (hS : SpecOk P f s) {xs : List SV} {K : Out → St → Mem → Prop} (h : callS s xs st m K) {ops : List Oper} (hG : Good B ops η m st a w) :
    Calls P f (dent η xs).toArray w fun e w' => ∃ o η' st' m', K o st' m' ∧ Good B ops η' m' st' a w' ∧
      (match o with | .ret x => e = .returned (den η' x) | .pan x => e = .panicked [{ v := den η' x, recovered := false }]) := by
  obtain ⟨hcall, hspec⟩ := hS
  obtain ⟨sz, t, gs, hpp, nx⟩ := st
  obtain ⟨x, hR, h⟩ := h
  obtain ⟨σ1, h, he1, hd1⟩ := mtt_sound h
  obtain ⟨σ2, h, he2, hd2⟩ := mtH_sound h
  have hp := hd2 σ2 (.refl _)
  split at h
  case h_2 => exact h.elim
  rename_i hb
  simp only [Bool.and_eq_true] at hb
  obtain ⟨hJ, h⟩ := h
  obtain ⟨h0, h, h0l, _⟩ := delT_sound h
  have hargs := hd1 σ2 he2 η
  rw [← hargs]
  refine (hspec x hR _ _ w rfl rfl rfl rfl (hG.H.enter hp hJ)).mono fun e w' ⟨b, η2, hC, hH2, he⟩ => ?_
  have h := h b hC
  unfold Spec.J3 at hH2
  split at h
  · rename_i hx
    rw [hx] at hH2
    exact callK_sound h he fun h' hh => hG.back hp hb.1 hb.2 (fun _ _ h => h) (fun _ _ h => .inl h) h0l hH2 hh
  · rename_i hx
    rw [hx] at hH2
    have uni : ∀ y o, m y = some o → ∀ o', s.J2 x b y = some o' → o = o' := by
      intro y o hy o' hy'
      have h2 := hH2.imm y o' hy'
      obtain ⟨σ', hσ⟩ : ∃ σ', σ' = σ2 := ⟨_, rfl⟩
      have h1 : w'.heap[y]? = w.heap[y]? := by
        refine hH2.old y (heap_lt (hG.H.imm y o hy)) fun hm => ?_
        obtain ⟨n, d, hl, ho⟩ := modsOf_out hm
        rcases (hp.ck n d hl).2 with ⟨k, c, hf, hlk, _⟩ | ⟨A, e, z, hf, _⟩
        · rw [ηOf_nm hf] at ho
          rw [(hG.H.own k c y hlk ho).1] at hy
          cases hy
        · rw [ηOf_nil hf] at ho
          cases ho
      rw [h1, hG.H.imm y o hy] at h2
      cases h2
      rfl
    refine callK_sound (h (fun y => match m y with | some o => some o | none => s.J2 x b y) (fun y o hy => by simp only [hy]) (fun y o hy => ?_)) he fun h' hh => hG.back hp hb.1 hb.2 (J' := s.J2 x b) (fun y o hy => by simp only [hy]) (fun y o hy => ?_) h0l hH2 hh
    · cases hm : m y with
      | none => simp only [hy]
      | some o' => simp only [uni y o' hm o hy]
    · cases hm : m y with
      | some o' =>
        simp only [hm] at hy
        exact .inl hy
      | none =>
        simp only [hm] at hy
        refine .inr ⟨hy, ?_⟩
        cases hj : s.J x y with
        | none => rfl
        | some o' => rw [hJ y o' hj] at hm; cases hm

theorem callR_sound {f : FuncId} {s : Spec} (hS : SpecOk P f s) {xs : List SV} {K : Out → St → Mem → Prop} (h : callR s xs st m K) {ops : List Oper} (hG : Good B ops η m st a w) :
    Calls P f (dent η xs).toArray w fun e w' => ∃ o η' st' m', K o st' m' ∧ Good B ops η' m' st' a w' ∧
      (match o with | .ret x => e = .returned (den η' x) | .pan x => e = .panicked [{ v := den η' x, recovered := false }]) := by
  obtain ⟨hcall, hspec⟩ := hS
  obtain ⟨sz, t, gs, hpp, nx⟩ := st
  simp only [callR] at h
  obtain ⟨xs', st1, m1, h, hG1, _, hxs⟩ := sealXs_sound h hG
  split at h
  · exact h.elim
  rename_i hx
  obtain ⟨x, hR, h⟩ := h
  obtain ⟨σ1, h, he1, hd1⟩ := mtt_sound h
  split at h
  case h_2 => exact h.elim
  rename_i hh0 hb
  simp only [Bool.and_eq_true] at hb
  obtain ⟨hJ, h⟩ := h
  have none0 : ∀ h0 : Heap, HpOk s.nx [] (s.h x) h0 σ1 := by
    intro h0
    rw [hh0]
    obtain ⟨σ', hσ, _, hp⟩ := mtH_sound (K := fun σ => σ = σ1) (nx := s.nx) (h0 := h0) (h2 := []) (used := []) (σ := σ1) rfl
    subst hσ
    exact hp _ (.refl _)
  have hargs := hd1 σ1 (.refl _) η
  rw [← hxs, ← hargs]
  refine (hspec x hR _ _ w rfl rfl rfl rfl (hG1.H.enter (none0 st1.h) hJ)).mono fun e w' ⟨b, η2, hC, hH2, he⟩ => ?_
  have h := h b hC
  unfold Spec.J3 at hH2
  rw [hx] at hH2
  exact callK_sound h he fun h' hh => hG.back (none0 hpp) hb.1 hb.2 (fun _ _ h => h) (fun _ _ h => .inl h) (fun k c hl => ⟨hl, fun n d hn => by rw [hh0] at hn; cases hn⟩) hH2 hh

theorem sealD_sound {ops : List Oper} {K : List SV → St → Mem → Prop} : ∀ {l : List (Nat × Nat)} {xs : List SV} {st : St} {m : Mem}, sealD l xs st m K → Good B ops η m st a w →
    ∃ xs' st' m', K xs' st' m' ∧ Good B ops η m' st' a w ∧ dent η xs' = dent η xs
  | [], xs, st, m, h, hG => ⟨xs, st, m, h, hG, rfl⟩
  | (k, o) :: l, xs, st, m, h, hG => by
    simp only [sealD] at h
    split at h
    · split at h
      · obtain ⟨x, h, _⟩ := partAt_sound h
        split at h
        · obtain ⟨st1, m1, h, hG1⟩ := sealE_sound hG h
          obtain ⟨xs1, h, _, h1⟩ := sbVs_sound (η := η) rfl rfl h
          obtain ⟨xs2, st2, m2, hk, hg, h2⟩ := sealD_sound h hG1
          exact ⟨xs2, st2, m2, hk, hg, h2.trans h1⟩
        · exact sealD_sound h hG
      · exact sealD_sound h hG
    · exact sealD_sound h hG

theorem CPs_ok {S : List (Nat × Spec)} (hS : ∀ f s, findS S f = some s → SpecOk P f s) : CPOk P (CPs S) := by
  intro f xs st m K h
  unfold CPs at h
  split at h
  · exact h.elim
  rename_i s hs
  have hok := hS f s hs
  refine ⟨hok.1, fun B ops η a w hG => ?_⟩
  obtain ⟨xs0, st0, m0, h, hG0, hxs0⟩ := sealD_sound h hG
  rw [← hxs0]
  split at h
  · exact callS_sound hok h hG0
  · exact callR_sound hok h hG0
  · obtain ⟨xs', st1, m1, h, hG1, _, hxs⟩ := sealXs_sound h hG0
    rw [← hxs]
    exact callS_sound hok h hG1
end
end Go.Proofs.YtaeoibnbbpgajaaDoor.Sx
