/- Symbolic execution, twenty-second text: a state in another's place; loops. -/
import Derived.Test.YtaeoibnbbpgajaaDoorSxU
import Derived.LoopN
namespace Go.Proofs.YtaeoibnbbpgajaaDoor.Sx

theorem mtC_sound {K : Ren → Prop} {c c' : Ck} {σ : Ren} (h : mtC c c' σ K) : ∃ σ', K σ' ∧ Ext σ σ' ∧
    ∀ σ'', Ext σ' σ'' → ∀ η w n b, ηOf σ'' η n = η b → CkAt η w b c' → CkAt (ηOf σ'' η) w n c := by
  cases c with
  | st e cs =>
    cases c' with
    | st e' cs' =>
      simp only [mtC] at h
      split at h
      · rename_i hb
        obtain rfl := beq_eq hb
        obtain ⟨σ', h, he, hd⟩ := mts_sound h
        refine ⟨σ', h, he, fun σ'' h2 η w n b hn hc => ?_⟩
        simp only [CkAt] at hc ⊢
        rw [hn, hd σ'' h2 η]
        exact hc
      · exact h.elim
    | row => exact h.elim
  | row e z k xs =>
    cases c' with
    | st => exact h.elim
    | row e' z' k' xs' =>
      simp only [mtC] at h
      split at h
      · rename_i hb
        simp only [Bool.and_eq_true] at hb
        obtain rfl := beq_eq hb.1
        obtain rfl := beq_eq hb.2
        obtain ⟨⟨rfl, rfl⟩, h⟩ := h
        refine ⟨σ, h, .refl σ, fun σ'' h2 η w n b hn hc => ?_⟩
        simp only [CkAt] at hc ⊢
        rw [hn]
        exact hc
      · exact h.elim

theorem mtT_sound {K : Ren → Prop} {t : List Slot} : ∀ {t2 : List Slot} {σ : Ren}, mtT t2 t σ K → ∃ σ', K σ' ∧ Ext σ σ' ∧
    ∀ σ'', Ext σ' σ'' → ∀ η k tag x, look t2 k = some (tag, x) → tag = [] ∧ ∃ y, look t k = some ([], y) ∧ den (ηOf σ'' η) x = den η y
  | [], σ, h => ⟨σ, h, .refl σ, fun _ _ _ _ _ _ h => by cases h⟩
  | ⟨k, tag, x⟩ :: r, σ, h => by
    simp only [mtT] at h
    split at h
    · rename_i y hl
      obtain ⟨σ1, h, he1, hd1⟩ := mt_sound h
      obtain ⟨σ2, h, he2, hd2⟩ := mtT_sound h
      refine ⟨σ2, h, he1.trans he2, fun σ'' h2 η k' tag' x' hl' => ?_⟩
      simp only [look] at hl'
      split at hl'
      · rename_i hb
        obtain rfl := beq_eq hb
        cases hl'
        exact ⟨rfl, y, hl, (hd1 σ'' (he2.trans h2) η).1⟩
      · exact hd2 σ'' h2 η k' tag' x' hl'
    · exact h.elim

theorem memN_mem {k : Nat} : ∀ {l : List Nat}, k ∈ l → memN k l = true
  | z :: r, hl => by
    simp only [memN]
    cases hz : Nat.beq z k with
    | true => rfl
    | false =>
      rcases List.mem_cons.1 hl with rfl | hl
      · rw [Nat.beq_refl] at hz; cases hz
      · exact memN_mem hl

/-- What a pattern's heap tells of a state's. -/
structure HpOk (nx : Nat) (used : List Nat) (h2 h0 : Heap) (σ : Ren) : Prop where
  ck : ∀ n c, lookH h2 n = some c → n < nx ∧ ((∃ b c', find σ n = some (.nm b) ∧ lookH h0 b = some c' ∧ ∀ η w, ηOf σ η n = η b → CkAt η w b c' → CkAt (ηOf σ η) w n c) ∨
      (∃ A e z, find σ n = some (.nil A) ∧ c = .row e z 0 []))
  free : ∀ n c b, lookH h2 n = some c → find σ n = some (.nm b) → b ∉ used
  inj : ∀ n c n' c' b, lookH h2 n = some c → lookH h2 n' = some c' → find σ n = some (.nm b) → find σ n' = some (.nm b) → n = n'

theorem mtH_sound {K : Ren → Prop} {nx : Nat} {h0 : Heap} : ∀ {h2 : Heap} {used : List Nat} {σ : Ren}, mtH nx used h2 h0 σ K → ∃ σ', K σ' ∧ Ext σ σ' ∧
    ∀ σ'', Ext σ' σ'' → HpOk nx used h2 h0 σ''
  | [], _, σ, h => ⟨σ, h, .refl σ, fun _ _ => ⟨fun _ _ h => (by cases h), fun _ _ _ h => (by cases h), fun _ _ _ _ _ h => (by cases h)⟩⟩
  | (n, c) :: r, used, σ, h => by
    simp only [mtH] at h
    split at h
    · rename_i b hlt hf
      split at h
      · rename_i c' hl
        cases hu : memN b used with
        | true => rw [hu] at h; exact h.elim
        | false =>
        rw [hu] at h
        obtain ⟨σ1, h, he1, hd1⟩ := mtC_sound h
        obtain ⟨σ2, h, he2, hd2⟩ := mtH_sound h
        refine ⟨σ2, h, he1.trans he2, fun σ'' h2 => ?_⟩
        have ih := hd2 σ'' h2
        have hfn := (he1.trans (he2.trans h2)) _ _ hf
        have free : ∀ n' c'' b', lookH r n' = some c'' → find σ'' n' = some (.nm b') → b' ≠ b ∧ b' ∉ used := fun n' c'' b' hl' hf' => by
          have := ih.free n' c'' b' hl' hf'
          simpa only [List.mem_cons, not_or] using this
        have cases' : ∀ n' c'', lookH ((n, c) :: r) n' = some c'' → (n' = n ∧ c'' = c) ∨ (n' ≠ n ∧ lookH r n' = some c'') := by
          intro n' c'' hl'
          simp only [lookH] at hl'
          split at hl'
          · rename_i hb
            cases hl'
            exact .inl ⟨(beq_eq hb).symm, rfl⟩
          · rename_i hb
            exact .inr ⟨fun e => (by subst e; rw [Nat.beq_refl] at hb; cases hb), hl'⟩
        refine ⟨fun n' c'' hl' => ?_, fun n' c'' b' hl' hf' => ?_, fun n1 c1 n2 c2 b' h1 h2' hf1 hf2 => ?_⟩
        · rcases cases' n' c'' hl' with ⟨rfl, rfl⟩ | ⟨_, hl'⟩
          · exact ⟨blt_lt hlt, .inl ⟨b, c', hfn, hl, fun η w => hd1 σ'' (he2.trans h2) η w n' b⟩⟩
          · exact ih.ck n' c'' hl'
        · rcases cases' n' c'' hl' with ⟨rfl, rfl⟩ | ⟨_, hl'⟩
          · rw [hfn] at hf'
            cases hf'
            intro hm
            rw [memN_mem hm] at hu
            cases hu
          · exact (free n' c'' b' hl' hf').2
        · rcases cases' n1 c1 h1 with ⟨rfl, rfl⟩ | ⟨hn1, g1⟩ <;> rcases cases' n2 c2 h2' with ⟨rfl, rfl⟩ | ⟨hn2, g2⟩
          · rfl
          · rw [hfn] at hf1
            cases hf1
            exact absurd rfl (free _ _ _ g2 hf2).1
          · rw [hfn] at hf2
            cases hf2
            exact absurd rfl (free _ _ _ g1 hf1).1
          · exact ih.inj n1 c1 n2 c2 b' g1 g2 hf1 hf2
      · exact h.elim
    · rename_i A hlt hf
      split at h
      · rename_i e z k xs
        obtain ⟨⟨rfl, rfl⟩, h⟩ := h
        obtain ⟨σ2, h, he2, hd2⟩ := mtH_sound h
        refine ⟨σ2, h, he2, fun σ'' h2 => ?_⟩
        have ih := hd2 σ'' h2
        have hfn := (he2.trans h2) _ _ hf
        have cases' : ∀ n' c'', lookH ((n, Ck.row e z 0 []) :: r) n' = some c'' → (n' = n ∧ c'' = .row e z 0 []) ∨ (lookH r n' = some c'') := by
          intro n' c'' hl'
          simp only [lookH] at hl'
          split at hl'
          · rename_i hb
            cases hl'
            exact .inl ⟨(beq_eq hb).symm, rfl⟩
          · exact .inr hl'
        refine ⟨fun n' c'' hl' => ?_, fun n' c'' b' hl' hf' => ?_, fun n1 c1 n2 c2 b' h1 h2' hf1 hf2 => ?_⟩
        · rcases cases' n' c'' hl' with ⟨rfl, rfl⟩ | hl'
          · exact ⟨blt_lt hlt, .inr ⟨A, e, z, hfn, rfl⟩⟩
          · exact ih.ck n' c'' hl'
        · rcases cases' n' c'' hl' with ⟨rfl, rfl⟩ | hl'
          · rw [hfn] at hf'; cases hf'
          · exact ih.free n' c'' b' hl' hf'
        · rcases cases' n1 c1 h1 with ⟨rfl, rfl⟩ | h1
          · rw [hfn] at hf1; cases hf1
          · rcases cases' n2 c2 h2' with ⟨rfl, rfl⟩ | h2'
            · rw [hfn] at hf2; cases hf2
            · exact ih.inj n1 c1 n2 c2 b' h1 h2' hf1 hf2
      · exact h.elim
    · exact h.elim

/-- The first names, each at its own place. -/
def idR : Nat → Ren
  | 0 => []
  | n + 1 => (n, .nm n) :: idR n
theorem find_idR : ∀ {k n : Nat}, n < k → find (idR k) n = some (.nm n)
  | k + 1, n, h => by
    simp only [idR, find]
    by_cases hn : k = n
    · subst hn; simp [Nat.beq_refl]
    · rw [beq_ne hn]
      exact find_idR (by omega)

/-- A pattern in a state's place: what is to be shown, and what is known behind it. -/
def wk (kp : Nat) (st st2 : St) (K : Prop) : Prop := match st, st2 with
  | ⟨sz, t, _, h, _⟩, ⟨sz2, t2, gs2, h2, nx2⟩ => match Nat.beq sz sz2 && Nat.ble kp nx2, gs2 with
    | true, [] => mtT t2 t (idR kp) fun σ => mtH nx2 [] h2 h σ fun _ => K
    | _, _ => False

section
variable {P : Program} {T : Tbl} {B : Base} {η : Names} {m : Mem} {st : St} {a : Act} {w : World}

theorem Hold.ren {h0 h2 : Heap} {nx nx2 : Nat} (hH : Hold B η m h0 nx w) {σ : Ren} (hd : HpOk nx2 [] h2 h0 σ) (hp : B.k0 ≤ nx2 ∧ ∀ n, n < B.k0 → find σ n = some (.nm n)) : Hold B (ηOf σ η) m h2 nx2 w := by
  have own : ∀ n c b, lookH h2 n = some c → (ηOf σ η n).own = some b → ∃ n0 c0, find σ n = some (.nm n0) ∧ lookH h0 n0 = some c0 ∧ (η n0).own = some b := by
    intro n c b hl ho
    rcases (hd.ck n c hl).2 with ⟨n0, c0, hf, hl0, _⟩ | ⟨A, e, z, hf, _⟩
    · rw [ηOf_nm hf] at ho
      exact ⟨n0, c0, hf, hl0, ho⟩
    · rw [ηOf_nil hf] at ho
      cases ho
  refine ⟨hH.imm, fun n c hl => ?_, fun n c b hl ho => ?_, fun n c n' c' b hl hl' hne ho ho' => ?_, hH.old, hH.size, hH.os, hH.tape, hH.output, hH.mle, hH.mnew, hp.1, fun n hn => ?_⟩
  · obtain ⟨hn, h | h⟩ := hd.ck n c hl
    · obtain ⟨b, c', hf, hl0, hc⟩ := h
      exact ⟨hn, hc η w (ηOf_nm hf η) (hH.ck b c' hl0).2⟩
    · obtain ⟨A, e, z, hf, rfl⟩ := h
      refine ⟨hn, ⟨⟨by simp, fun u hu => by cases hu⟩, .inl ?_⟩⟩
      rw [ηOf_nil hf]
      exact ⟨rfl, rfl, rfl⟩
  · obtain ⟨n0, c0, hf, hl0, ho0⟩ := own n c b hl ho
    exact hH.own n0 c0 b hl0 ho0
  · obtain ⟨n0, c0, hf, hl0, ho0⟩ := own n c b hl ho
    obtain ⟨n1, c1, hf1, hl1, ho1⟩ := own n' c' b hl' ho'
    have : n0 ≠ n1 := fun e => by subst e; exact hne (hd.inj n c n' c' n0 hl hl' hf hf1)
    exact hH.apart n0 c0 n1 c1 b hl0 hl1 this ho0 ho1
  · rw [ηOf_nm (hp.2 n hn)]
    exact hH.par.2 n hn

theorem wk_sound {kp : Nat} (hkp : B.k0 ≤ kp) {st2 : St} {K : Prop} (h : wk kp st st2 K) (hG : Good B [] η m st a w) : K ∧ ∃ η2, Good B [] η2 m st2 a w := by
  obtain ⟨sz, t, gs, h0, nx⟩ := st
  obtain ⟨sz2, t2, gs2, h2, nx2⟩ := st2
  simp only [wk] at h
  split at h
  · rename_i hb
    simp only [Bool.and_eq_true] at hb
    obtain rfl := beq_eq hb.1
    obtain ⟨σ1, h, he1, hd1⟩ := mtT_sound h
    obtain ⟨σ2, h, he2, hd2⟩ := mtH_sound h
    refine ⟨h, ηOf σ2 η, hG.H.ren (hd2 σ2 (.refl _)) ⟨Nat.le_trans hkp (ble_le hb.2), fun n hn => he2 _ _ (he1 _ _ (find_idR (by omega)))⟩, ⟨hG.T.sz, hG.T.df, fun k tag x hl => ?_, fun j g tg hl => by cases hl⟩⟩
    obtain ⟨rfl, y, hl0, hy⟩ := hd1 σ2 he2 η k tag x hl
    rw [hy]
    exact hG.T.sl k [] y hl0
  · exact h.elim

/-- The loop rule: a family of states, one per ghost, with a measure. -/
def LPs (T : Tbl) (CP : CallP) (DP : List Oper → St → Mem → (Ex → St → Mem → Prop) → Prop) (lv : List Nat) (kp : Nat) : Nat → Code → St → Mem → (Ex → St → Mem → Prop) → Prop
  | 0, _, _, _, _ => False
  | n + 1, c, st, m, K => ∃ (A : Type) (R : A → Prop) (I : A → St) (J : A → Mem) (μ : A → Nat), (∃ a, J a = m ∧ R a ∧ wk kp st (I a) True) ∧
    ∀ a, R a → exec T CP (LPs T CP DP lv kp n) DP lv c (fun e st m => match e with
      | .normal => ∃ a', J a' = m ∧ (R a' ∧ μ a' < μ a) ∧ wk kp st (I a') True
      | .exit i => K (.exit i) st m
      | .ret => K .ret st m
      | .panic x => K (.panic x) st m) (I a) (J a)

theorem LPs_ok (hT : TOk P T) {CP : CallP} (hCP : CPOk P CP) {DP : List Oper → St → Mem → (Ex → St → Mem → Prop) → Prop} (hDP : DPOk P B DP) {lv : List Nat} {kp : Nat} (hkp : B.k0 ≤ kp) : ∀ n, LPOk P B (LPs T CP DP lv kp n)
  | 0 => fun _ _ _ _ h => h.elim
  | n + 1 => by
    intro c st m K h η a w Q hG hK
    obtain ⟨A, R, I, J, μ, ⟨x0, hm, hR, hw⟩, round⟩ := h
    subst hm
    obtain ⟨_, η0, hG0⟩ := wk_sound hkp hw hG
    have key : ∀ k x η a w, μ x < k → R x → Good B [] η (J x) (I x) a w → Code.rounds P c Q k a w := by
      intro k
      induction k with
      | zero => intro x η a w hk; omega
      | succ k ih =>
        intro x η a w hk hR hG
        rw [rounds_succ]
        refine exec_sound hT hCP (LPs_ok hT hCP hDP hkp n) hDP (round x hR) hG fun e η st m a w h hG => ?_
        cases e with
        | normal =>
          obtain ⟨x', hm, ⟨hR', hμ⟩, hw⟩ := h
          subst hm
          obtain ⟨_, η', hG'⟩ := wk_sound hkp hw hG
          exact ih x' η' a w (by omega) hR' hG'
        | exit i => exact hK _ _ _ _ _ _ h hG
        | ret => exact hK _ _ _ _ _ _ h hG
        | panic x => exact hK _ _ _ _ _ _ h hG
    exact wp_loop_rounds _ (key (μ x0 + 1) x0 η0 a w (by omega) hR hG0)
end
end Go.Proofs.YtaeoibnbbpgajaaDoor.Sx
