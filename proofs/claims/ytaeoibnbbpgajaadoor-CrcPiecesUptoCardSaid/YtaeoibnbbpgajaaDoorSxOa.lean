/- Symbolic execution: rows that stay from now on, and that this is told rightly. -/
import Derived.Test.YtaeoibnbbpgajaaDoorSxO
namespace Go.Proofs.YtaeoibnbbpgajaaDoor.Sx

section
variable {η : Names} {r : Nat} {A : Option Addr} {cap : Nat}

mutual
theorem sbV_sound (hA : (η r).A = A) (hc : (η r).cap = cap) {K : SV → Prop} : ∀ {x : SV}, sbV r A cap x K → ∃ x', K x' ∧ den η x' = den η x ∧ pc x' (den η x') = pc x (den η x) ∧ ∀ g, x = .b g → x' = .b g
  | .rw n l, h => by
    simp only [sbV] at h
    split at h
    · rename_i hb
      obtain rfl := beq_eq hb
      exact ⟨_, h, by simp only [den, hA, hc], by simp only [den, pc, hA, hc], fun g e => by cases e⟩
    · exact ⟨_, h, rfl, rfl, fun g e => by cases e⟩
  | .p n o, h => by
    simp only [sbV] at h
    split at h
    · rename_i hb
      obtain rfl := beq_eq hb
      exact ⟨_, h, by simp only [den, hA], by simp only [den, pc, hA], fun g e => by cases e⟩
    · exact ⟨_, h, rfl, rfl, fun g e => by cases e⟩
  | .pj n o j, h => by
    simp only [sbV] at h
    split at h
    · exact h.elim
    · exact ⟨_, h, rfl, rfl, fun g e => by cases e⟩
  | .g cs, h => by
    simp only [sbV] at h
    obtain ⟨cs', h, hd, _⟩ := sbVs_sound hA hc h
    exact ⟨_, h, by simp only [den, hd], by simp only [den, pc, hd], fun g e => by cases e⟩
  | .t cs, h => by
    simp only [sbV] at h
    obtain ⟨cs', h, _, hd⟩ := sbVs_sound hA hc h
    exact ⟨_, h, by simp only [den, hd], by simp only [den, pc, hd], fun g e => by cases e⟩
  | .e ty x, h => by
    simp only [sbV] at h
    obtain ⟨x', h, hd, _⟩ := sbV_sound hA hc h
    exact ⟨_, h, by simp only [den, hd], by simp only [den, pc, hd], fun g e => by cases e⟩
  | .fn f a c, h => by
    simp only [sbV] at h
    obtain ⟨a', h, _, hd⟩ := sbVs_sound hA hc h
    obtain ⟨c', h, _, hd'⟩ := sbVs_sound hA hc h
    exact ⟨_, h, by simp only [den, hd, hd'], by simp only [den, pc, hd, hd'], fun g e => by cases e⟩
  | .b x, h => ⟨_, h, rfl, rfl, fun g e => e⟩
  | .i k n, h => ⟨_, h, rfl, rfl, fun g e => e⟩
  | .s x, h => ⟨_, h, rfl, rfl, fun g e => e⟩
  | .el B o, h => ⟨_, h, rfl, rfl, fun g e => e⟩
  | .np, h => ⟨_, h, rfl, rfl, fun g e => e⟩
  | .sl B l c, h => ⟨_, h, rfl, rfl, fun g e => e⟩
  | .gi n k f, h => ⟨_, h, rfl, rfl, fun g e => e⟩
  | .ne, h => ⟨_, h, rfl, rfl, fun g e => e⟩
  | .v x, h => ⟨_, h, rfl, rfl, fun g e => e⟩
theorem sbVs_sound (hA : (η r).A = A) (hc : (η r).cap = cap) {K : List SV → Prop} : ∀ {l : List SV}, sbVs r A cap l K → ∃ l', K l' ∧ dens η l' = dens η l ∧ dent η l' = dent η l
  | [], h => ⟨_, h, rfl, rfl⟩
  | x :: l, h => by
    simp only [sbVs] at h
    obtain ⟨x', h, hd, hp, _⟩ := sbV_sound hA hc h
    obtain ⟨l', h, h1, h2⟩ := sbVs_sound hA hc h
    exact ⟨_, h, by simp only [dens, h1, hp], by simp only [dent, h2, hd]⟩
end

theorem sbT_sound (hA : (η r).A = A) (hc : (η r).cap = cap) {K : List Slot → Prop} : ∀ {t : List Slot}, sbT r A cap t K →
    ∃ t', K t' ∧ (∀ k tag x', look t' k = some (tag, x') → ∃ x, look t k = some (tag, x) ∧ den η x' = den η x) ∧ ∀ k tag g, look t k = some (tag, .b g) → look t' k = some (tag, .b g)
  | [], h => ⟨_, h, (fun _ _ _ h => by cases h), fun _ _ _ h => by cases h⟩
  | ⟨n, tg, y⟩ :: l, h => by
    simp only [sbT] at h
    obtain ⟨y', h, hd, _, hb⟩ := sbV_sound hA hc h
    obtain ⟨t', h, h1, h2⟩ := sbT_sound hA hc h
    refine ⟨_, h, fun k tag x' hl => ?_, fun k tag g hl => ?_⟩
    · simp only [look] at hl ⊢
      split at hl
      · cases hl
        exact ⟨y, rfl, hd⟩
      · exact h1 k tag x' hl
    · simp only [look] at hl ⊢
      split at hl
      · cases hl
        rw [hb g rfl]
      · exact h2 k tag g hl

theorem sbH_sound (hA : (η r).A = A) (hc : (η r).cap = cap) {K : Heap → Prop} : ∀ {h : Heap}, sbH r A cap h K →
    ∃ h', K h' ∧ ∀ n c', lookH h' n = some c' → ∃ c, lookH h n = some c ∧ ∀ w, CkAt η w n c → CkAt η w n c'
  | [], h => ⟨_, h, fun _ _ h => by cases h⟩
  | (i, .st e cs) :: l, h => by
    simp only [sbH] at h
    obtain ⟨cs', h, hd, _⟩ := sbVs_sound hA hc h
    obtain ⟨h', h, h1⟩ := sbH_sound hA hc h
    refine ⟨_, h, fun n c' hl => ?_⟩
    simp only [lookH] at hl ⊢
    split at hl
    · cases hl
      exact ⟨_, rfl, fun w hck => by simpa only [CkAt, hd] using hck⟩
    · exact h1 n c' hl
  | (i, .row e z k xs) :: l, h => by
    simp only [sbH] at h
    obtain ⟨h', h, h1⟩ := sbH_sound hA hc h
    refine ⟨_, h, fun n c' hl => ?_⟩
    simp only [lookH] at hl ⊢
    split at hl
    · cases hl
      exact ⟨_, rfl, fun w hck => hck⟩
    · exact h1 n c' hl
end

section
variable {P : Program} {T : Tbl} {B : Base} {ops : List Oper} {η : Names} {m : Mem} {st : St} {a : Act} {w : World}

/-- What an own row has from sealing on. -/
theorem Hold.sealed {h : Heap} {nx : Nat} (hH : Hold B η m h nx w) {r : Nat} {e : TypeId} {z n : Nat} {xs : List Value} (hl : lookH h r = some (.row e z n xs))
    {w' : World} {fr : Nat × Nat} (hw : ∀ b cur, (η r).own = some b → w.heap[b]? = some (.cells cur e (0, 0)) → w'.heap[b]? = some (.cells cur e fr)) (hwo : ∀ k, (η r).own ≠ some k → w'.heap[k]? = w.heap[k]?)
    (hs : w'.heap.size = w.heap.size) (hos : w'.os = w.os) (htp : w'.tape = w.tape) (hout : w'.output = w.output) :
    ∃ m', Sealed m m' (η r).A (η r).cap n z xs ∧ ∀ h', (∀ k c, lookH h' k = some c → lookH h k = some c ∧ k ≠ r) → Hold B η m' h' nx w' := by
  obtain ⟨⟨hxl, hx1⟩, hrow⟩ := (hH.ck r _ hl).2
  have base : ∀ m' : Mem, (∀ b o, m' b = some o → w'.heap[b]? = some o) → (∀ b o, m b = some o → m' b = some o) → (∀ b o, m' b = some o → m b = some o ∨ (η r).own = some b) →
      ∀ h', (∀ k c, lookH h' k = some c → lookH h k = some c ∧ k ≠ r) → Hold B η m' h' nx w' := by
    intro m' himm hext hnew h' hh
    have hoff : ∀ k c b, lookH h' k = some c → (η k).own = some b → (η r).own ≠ some b := fun k c b hk ho ho' =>
      hH.apart k c r _ b (hh k c hk).1 hl (hh k c hk).2 ho ho'
    refine ⟨himm, fun k c hk => ?_, fun k c b hk ho => ?_, fun k c k' c' b hk hk' => hH.apart k c k' c' b (hh k c hk).1 (hh k' c' hk').1, fun b hb hbm => ?_, by rw [hs]; exact hH.size, hos.trans hH.os, htp.trans hH.tape, hout.trans hH.output,
      fun b o h0 => hext b o (hH.mle b o h0), fun b o hb => ?_, hH.par⟩
    · obtain ⟨h1, h2⟩ := hH.ck k c (hh k c hk).1
      exact ⟨h1, h2.kept rfl (fun _ _ _ => rfl) fun b ho => hwo b (hoff k c b hk ho)⟩
    · obtain ⟨h1, h2, h3⟩ := hH.own k c b (hh k c hk).1 ho
      refine ⟨?_, by rw [hs]; exact h2, h3⟩
      cases hb : m' b with
      | none => rfl
      | some o =>
        rcases hnew b o hb with h4 | h4
        · rw [h1] at h4; cases h4
        · exact absurd h4 (hoff k c b hk ho)
    · rw [hwo b (fun ho => by
        rcases (hH.own r _ b hl ho).2.2 with h3 | h3
        · exact hbm h3
        · omega)]
      exact hH.old b hb hbm
    · rcases hnew b o hb with h4 | h4
      · exact hH.mnew b o h4
      · exact .inr ((hH.own r _ b hl h4).2.2.symm)
  rcases hrow with ⟨ho, hk0, hcap⟩ | ⟨b, cur, hA, ho, hb, hk, hcm, hcur, htake⟩
  · subst hk0
    refine ⟨m, ⟨fun _ _ h => h, hxl, hx1, Nat.zero_le _, fun h => absurd h (Nat.lt_irrefl _)⟩, base m (fun b o hb => ?_) (fun _ _ h => h) (fun b o h => .inl h)⟩
    rw [hwo b (fun e => by rw [ho] at e; cases e)]
    exact hH.imm b o hb
  · have hmb := (hH.own r _ b hl ho).1
    refine ⟨fun k => if k = b then some (.cells cur e fr) else m k, ⟨fun k o hk => ?_, hxl, hx1, hk, fun hp => ⟨⟨b, 0, none⟩, hA, hxl, fun j u hj => ?_⟩⟩, base _ (fun k o hk => ?_) (fun k o hk => ?_) (fun k o hk => ?_)⟩
    · rw [if_neg (fun e => by subst e; rw [hmb] at hk; cases hk)]; exact hk
    · rw [Nat.zero_add, add_base]
      simp only [mcell, if_true]
      rw [← htake, List.getElem?_take] at hj
      split at hj
      · simpa using hj
      · cases hj
    · by_cases hkb : k = b
      · subst hkb
        rw [if_pos rfl] at hk
        rw [hw k cur ho hb]
        exact hk
      · rw [if_neg hkb] at hk
        rw [hwo k (fun e => hkb (by rw [ho] at e; cases e; rfl))]
        exact hH.imm k o hk
    · rw [if_neg (fun e => by subst e; rw [hmb] at hk; cases hk)]; exact hk
    · by_cases hkb : k = b
      · subst hkb; exact .inr ho
      · rw [if_neg hkb] at hk; exact .inl hk

theorem sealE_out {r : Nat} {K : Option Addr → Nat → St → Mem → Prop} (ht : HoldT ops η st a) (h : sealE st m r K) : ∃ e z n xs, lookH st.h r = some (.row e z n xs) ∧
    ∀ (w' : World) (m' : Mem), Sealed m m' (η r).A (η r).cap n z xs → (∀ h', (∀ k c, lookH h' k = some c → lookH st.h k = some c ∧ k ≠ r) → Hold B η m' h' st.nx w') →
      ∃ st', K (η r).A (η r).cap st' m' ∧ Good B ops η m' st' a w' := by
  unfold sealE at h
  split at h
  case h_2 => exact h.elim
  rename_i e z n xs hl
  refine ⟨e, z, n, xs, hl, fun w' m' hS hh => ?_⟩
  obtain ⟨h1, hk, hd, _⟩ := delHK_sound (h _ _ m' hS)
  obtain ⟨h2, hk, hb⟩ := sbH_sound (η := η) rfl rfl hk
  obtain ⟨t2, hk, ht1, ht2⟩ := sbT_sound (η := η) rfl rfl hk
  obtain ⟨sz, t, gs, hp, nx⟩ := st
  have hH := hh h1 hd
  refine ⟨_, hk, ⟨?_, ⟨ht.sz, ht.df, fun k tag x' hl' => ?_, fun j g tg hg => ?_⟩⟩⟩
  · refine ⟨hH.imm, fun k c hl' => ?_, fun k c b hl' ho => ?_, fun k c k' c' b hl' hl'' hne ho => ?_, hH.old, hH.size, hH.os, hH.tape, hH.output, hH.mle, hH.mnew, hH.par⟩
    · obtain ⟨c0, hc0, hck⟩ := hb k c hl'
      exact ⟨(hH.ck k c0 hc0).1, hck _ (hH.ck k c0 hc0).2⟩
    · obtain ⟨c0, hc0, _⟩ := hb k c hl'
      exact hH.own k c0 b hc0 ho
    · obtain ⟨c0, hc0, _⟩ := hb k c hl'
      obtain ⟨c1, hc1, _⟩ := hb k' c' hl''
      exact hH.apart k c0 k' c1 b hc0 hc1 hne ho
  · obtain ⟨x, hx, hde⟩ := ht1 k tag x' hl'
    rw [hde]
    exact ht.sl k tag x hx
  · obtain ⟨d, hd', hl'⟩ := ht.gs j g tg hg
    exact ⟨d, hd', ht2 d tg g hl'⟩

theorem sealE_sound (hG : Good B ops η m st a w) {r : Nat} {K : Option Addr → Nat → St → Mem → Prop} (h : sealE st m r K) : ∃ st' m', K (η r).A (η r).cap st' m' ∧ Good B ops η m' st' a w := by
  obtain ⟨e, z, n, xs, hl, hk⟩ := sealE_out (B := B) hG.T h
  obtain ⟨m', hS, hh⟩ := hG.H.sealed hl (w' := w) (fr := (0, 0)) (fun _ _ _ h => h) (fun _ _ => rfl) rfl rfl rfl rfl
  obtain ⟨st', hk, hg⟩ := hk w m' hS hh
  exact ⟨st', m', hk, hg⟩

theorem sealXs_sound {K : List SV → St → Mem → Prop} : ∀ {f : Nat} {l : List SV} {st : St} {m : Mem}, sealXs f st m l K → Good B ops η m st a w →
    ∃ l' st' m', K l' st' m' ∧ Good B ops η m' st' a w ∧ dens η l' = dens η l ∧ dent η l' = dent η l
  | 0, l, st, m, h, hG => ⟨l, st, m, h, hG, rfl, rfl⟩
  | f + 1, l, st, m, h, hG => by
    simp only [sealXs] at h
    split at h
    · exact ⟨l, st, m, h, hG, rfl, rfl⟩
    · obtain ⟨st', m', h, hG'⟩ := sealE_sound hG h
      obtain ⟨l', h, h1, h2⟩ := sbVs_sound (η := η) rfl rfl h
      obtain ⟨l'', st'', m'', hk, hg, h3, h4⟩ := sealXs_sound h hG'
      exact ⟨l'', st'', m'', hk, hg, h3.trans h1, h4.trans h2⟩

theorem sbP_sound {r : Nat} {K : List (Nat × SV) → Prop} : ∀ {l : List (Nat × SV)}, sbP r (η r).A (η r).cap l K → ∃ l', K l' ∧ (l'.map fun p => (p.1, den η p.2)) = l.map fun p => (p.1, den η p.2)
  | [], h => ⟨_, h, rfl⟩
  | (n, x) :: l, h => by
    simp only [sbP] at h
    obtain ⟨x', h, hd, _⟩ := sbV_sound (η := η) rfl rfl h
    obtain ⟨l', h, h1⟩ := sbP_sound h
    exact ⟨_, h, by simp only [List.map_cons, h1, hd]⟩
theorem sealPs_sound {K : List (Nat × SV) → St → Mem → Prop} : ∀ {f : Nat} {l : List (Nat × SV)} {st : St} {m : Mem}, sealPs f st m l K → Good B ops η m st a w →
    ∃ l' st' m', K l' st' m' ∧ Good B ops η m' st' a w ∧ (l'.map fun p => (p.1, den η p.2)) = l.map fun p => (p.1, den η p.2)
  | 0, l, st, m, h, hG => ⟨l, st, m, h, hG, rfl⟩
  | f + 1, l, st, m, h, hG => by
    simp only [sealPs] at h
    split at h
    · exact ⟨l, st, m, h, hG, rfl⟩
    · obtain ⟨st', m', h, hG'⟩ := sealE_sound hG h
      obtain ⟨l', h, h1⟩ := sbP_sound h
      obtain ⟨l'', st'', m'', hk, hg, h3⟩ := sealPs_sound h hG'
      exact ⟨l'', st'', m'', hk, hg, h3.trans h1⟩

theorem sealIn_sound (hG : Good B ops η m st a w) {x v : SV} {K : SV → St → Mem → Prop} (h : sealIn st m x v K) : ∃ v' st' m', K v' st' m' ∧ Good B ops η m' st' a w ∧ den η v' = den η v := by
  unfold sealIn at h
  split at h
  · split at h
    · obtain ⟨l', st', m', h, hg, _, h2⟩ := sealXs_sound h hG
      rcases l' with _ | ⟨y, _ | ⟨z, l2⟩⟩
      · exact h.elim
      · simp only [dent, List.cons.injEq, and_true] at h2
        exact ⟨y, st', m', h, hg, h2⟩
      · exact h.elim
    · exact ⟨v, st, m, h, hG, rfl⟩
  · exact ⟨v, st, m, h, hG, rfl⟩

theorem bytesE_sound (hT : TOk P T) (hG : Good B ops η m st a w) {s d : TypeId} {x : SV} {K : SV → St → Mem → Prop} (h : bytesE T st m s d x K) :
    ∃ v st' m' w', K v st' m' ∧ (convert s d (den η x)).run P w = .ok (den η v) w' ∧ Good B ops η m' st' a w' := by
  unfold bytesE at h
  split at h
  · rename_i r l
    split at h
    case h_2 => exact h.elim
    rename_i ta hta hsd
    obtain rfl := beq_eq hsd
    have hu := (hT s ta hta).1
    split at h
    case h_2 => exact h.elim
    rename_i e hd
    rw [hd] at hu
    split at h
    case h_2 => exact h.elim
    rename_i te hte
    have hue := (hT e te hte).1
    split at h
    case h_2 => exact h.elim
    rename_i hde
    rw [hde] at hue
    split at h
    case h_2 => exact h.elim
    rename_i e' z n xs hl
    obtain ⟨hn, h⟩ := h
    obtain ⟨e1, z1, n1, xs1, hl1, hk⟩ := sealE_out (B := B) hG.T h
    rw [hl] at hl1
    cases hl1
    obtain ⟨⟨hxl, hx1⟩, ⟨_, hk0, _⟩ | ⟨b, cur, hA, ho, hb, hkc, hcm, hcur, htake⟩⟩ := (hG.H.ck r _ hl).2
    · omega
    have hfr : (w.freeze ⟨b, cur.size, none⟩ 1).heap[b]? = some (.cells cur e' (cur.size, cur.size + 1)) := by
      simp [World.freeze, Array.getElem?_modify, hb]
    have hfo : ∀ k, k ≠ b → (w.freeze ⟨b, cur.size, none⟩ 1).heap[k]? = w.heap[k]? := by
      intro k hk
      simp [World.freeze, Array.getElem?_modify, Ne.symm hk]
    obtain ⟨m', hS, hh⟩ := hG.H.sealed hl (w' := w.freeze ⟨b, cur.size, none⟩ 1) (fr := (cur.size, cur.size + 1))
      (fun b' cur' ho' hb' => by rw [ho] at ho'; cases ho'; rw [hb] at hb'; cases hb'; exact hfr) (fun k hk => hfo k (fun e => hk (by rw [e]; exact ho)))
      (by simp [World.freeze]) rfl rfl rfl
    obtain ⟨st', hk, hg⟩ := hk _ m' hS hh
    refine ⟨_, st', m', _, hk, ?_, hg⟩
    have hsh : w.shape? b = some (e', cur.size) := by simp [World.shape?, hb]
    simp only [den, hA]
    simp [convert, run_underlying hu, run_underlying hue, markStringish, shape, freeze, Sem.run, hsh]
  · obtain ⟨v, hk, hr⟩ := convV_sound (η := η) hT h
    exact ⟨v, st, m, w, hk, hr w, hG⟩
end
end Go.Proofs.YtaeoibnbbpgajaaDoor.Sx
