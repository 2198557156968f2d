/- One log, thought of: what leaders wrote, who voted, who has what; a majority's entries stay. No program in sight. Then: One log, thought of: what stays true when a node goes on. No program in sight. One log, thought of: votes. No program in sight. One log, thought of: a node's moves. No program in sight. One log, thought of: a candidate, a leader, a follower. No program in sight. One log, thought of: a follower, a commit, the world. No program in sight. -/
import Derived.Test.YtjpjiniclibgkaaSafeA
namespace Go.Proofs.Ytjpjiniclibgkaa.Sx.Safe

/-! ### majorities -/
def cnt (n : Nat) (p : Nat → Bool) : Nat := ((List.range n).filter p).length
def Most (n : Nat) (p : Nat → Bool) : Prop := n < 2 * cnt n p
theorem cnt_succ (n : Nat) (p : Nat → Bool) : cnt (n + 1) p = cnt n p + (if p n = true then 1 else 0) := by
  unfold cnt
  rw [List.range_succ, List.filter_append, List.length_append]
  congr 1
  cases h : p n <;> simp [h]
theorem cnt_apart {p q : Nat → Bool} : ∀ n, (∀ k, k < n → ¬ (p k = true ∧ q k = true)) → cnt n p + cnt n q ≤ n
  | 0, _ => by simp [cnt]
  | n + 1, h => by
    have ih := cnt_apart n fun k hk => h k (by omega)
    have hn := h n (by omega)
    rw [cnt_succ, cnt_succ]
    by_cases h1 : p n = true
    · by_cases h2 : q n = true
      · exact absurd ⟨h1, h2⟩ hn
      · rw [if_pos h1, if_neg h2]; omega
    · rw [if_neg h1]; split <;> omega
theorem Most.meet {n : Nat} {p q : Nat → Bool} (hp : Most n p) (hq : Most n q) : ∃ k, k < n ∧ p k = true ∧ q k = true := by
  refine Classical.byContradiction fun hc => ?_
  have := cnt_apart (p := p) (q := q) n fun k hk ⟨h1, h2⟩ => hc ⟨k, hk, h1, h2⟩
  unfold Most at hp hq
  omega
theorem cnt_mono {p q : Nat → Bool} : ∀ n, (∀ k, k < n → p k = true → q k = true) → cnt n p ≤ cnt n q
  | 0, _ => by simp [cnt]
  | n + 1, h => by
    have ih := cnt_mono n fun k hk => h k (by omega)
    have hn := h n (by omega)
    rw [cnt_succ, cnt_succ]
    by_cases h1 : p n = true
    · rw [if_pos h1, if_pos (hn h1)]; omega
    · rw [if_neg h1]; split <;> omega
theorem Most.mono {n : Nat} {p q : Nat → Bool} (h : ∀ k, k < n → p k = true → q k = true) (hp : Most n p) : Most n q := by
  have := cnt_mono n h
  unfold Most at hp ⊢
  omega

/-! ### beginnings of lists -/
section lists
variable {α : Type}
theorem pre_take {l k : List α} (h : l <+: k) (i : Nat) : l.take i <+: k.take i := by
  obtain ⟨r, rfl⟩ := h
  rw [List.take_append]
  exact List.prefix_append _ _
theorem pre_eq {l k : List α} (h : l <+: k) {i : Nat} (hi : i ≤ l.length) : l.take i = k.take i := by
  obtain ⟨r, rfl⟩ := h
  rw [List.take_append_of_le_length hi]
theorem pre_get {l k : List α} (h : l <+: k) {i : Nat} {x : α} (hx : l[i]? = some x) : k[i]? = some x := by
  obtain ⟨r, rfl⟩ := h
  rw [List.getElem?_append_left (List.getElem?_eq_some_iff.1 hx).1]
  exact hx
/-- Two beginnings of one list. -/
theorem pre_two {a b k : List α} (ha : a <+: k) (hb : b <+: k) (hl : a.length ≤ b.length) : a <+: b := by
  have h1 : a = k.take a.length := by rw [← pre_eq ha (Nat.le_refl _), List.take_length]
  have h2 := pre_eq hb hl
  rw [h1, ← h2]
  exact List.take_prefix _ _
theorem take_pre (l : List α) {i j : Nat} (h : i ≤ j) : l.take i <+: l.take j := by
  have := pre_take (List.take_prefix j l) i
  have e : l.take i = (l.take j).take i := by rw [List.take_take, Nat.min_eq_left h]
  rw [e]
  exact List.take_prefix _ _
end lists

/-! ### what is thought of -/
variable {α : Type} (tm : α → Int)
/-- The whole log of each node (F), the log of each term's leader (L), who led (ld), a candidate's log (C), the votes (V), up to where a node said to have a term's log (A). -/
structure Gh (α : Type) where
  L : Int → List α
  ld : Int → Option Nat
  C : Nat → Int → List α
  V : Nat → Int → Option Nat
  A : Nat → Int → Nat
/-- The entry number i (from 1 on) is of the term t. -/
def At (l : List α) (i : Nat) (t : Int) : Prop := ∃ x, l[i - 1]? = some x ∧ tm x = t
/-- A log grew out of the leaders' logs. -/
def Grown (g : Gh α) (l : List α) (top : Int) : Prop := ∀ i x, l[i]? = some x → tm x ≤ top ∧ (g.ld (tm x)).isSome = true ∧ l.take (i + 1) <+: g.L (tm x)
def Up (l : List α) : Prop := ∀ (i j : Nat) x y, i ≤ j → l[i]? = some x → l[j]? = some y → tm x ≤ tm y
def Lack (g : Gh α) (t : Int) (i : Nat) (u : Int) : Prop := (g.ld u).isSome = true ∧ ¬ (g.L t).take i <+: g.L u
/-- A vote for a candidate: what the voter had said to have, the candidate has, or a leader in between lacks it. -/
def VoteOK (g : Gh α) (w c : Nat) (u : Int) : Prop := ∀ t i, t < u → 0 < i → i ≤ g.A w t → At tm (g.L t) i t → (g.L t).take i <+: g.C c u ∨ ∃ v, t < v ∧ v < u ∧ Lack g t i v
structure GOK (sz : Nat) (g : Gh α) : Prop where
  lm : ∀ t, Grown tm g (g.L t) t
  up : ∀ t, Up tm (g.L t)
  el : ∀ t c, g.ld t = some c → ∃ q, Most sz q ∧ ∀ w, w < sz → q w = true → g.V w t = some c ∧ VoteOK tm g w c t
  cl : ∀ t c, g.ld t = some c → g.C c t <+: g.L t
  al : ∀ w t, g.A w t ≤ (g.L t).length
  nl : ∀ t, g.ld t = none → g.L t = []
/-- An entry that a majority said to have. -/
structure Comm (sz : Nat) (g : Gh α) (t : Int) (i : Nat) : Prop where
  pos : 0 < i
  at' : At tm (g.L t) i t
  most : Most sz fun w => decide (i ≤ g.A w t)
variable {tm}
theorem At.le {l : List α} {i : Nat} {t : Int} (hi : 0 < i) (h : At tm l i t) : i ≤ l.length := by
  obtain ⟨x, hx, _⟩ := h
  have := (List.getElem?_eq_some_iff.1 hx).1
  omega
theorem Most.some {n : Nat} {p : Nat → Bool} (hp : Most n p) : ∃ k, k < n ∧ p k = true := by
  obtain ⟨k, h1, h2, _⟩ := Most.meet hp hp
  exact ⟨k, h1, h2⟩
/-- What a majority said to have, each later leader has. -/
theorem complete {sz : Nat} {g : Gh α} (h : GOK tm sz g) {t : Int} {i : Nat} (hc : Comm tm sz g t i) : ∀ (n : Nat) (u : Int), (u - t).toNat ≤ n → t < u → (g.ld u).isSome = true → (g.L t).take i <+: g.L u
  | 0, u, hn, hu, _ => by omega
  | n + 1, u, hn, hu, hl => by
    cases hld : g.ld u with
    | none => rw [hld] at hl; cases hl
    | some c =>
      obtain ⟨q, hq, hv⟩ := h.el u c hld
      obtain ⟨w, hw, h1, h2⟩ := Most.meet hc.most hq
      obtain ⟨_, hok⟩ := hv w hw h2
      rcases hok t i hu hc.pos (of_decide_eq_true h1) hc.at' with h3 | ⟨v, h3, h4, h5, h6⟩
      · exact h3.trans (h.cl u c hld)
      · exact absurd (complete h hc n v (by omega) h3 h5) h6
theorem complete' {sz : Nat} {g : Gh α} (h : GOK tm sz g) {t : Int} {i : Nat} (hc : Comm tm sz g t i) {u : Int} (hu : t ≤ u) (hl : (g.ld u).isSome = true) : (g.L t).take i <+: g.L u := by
  by_cases he : t = u
  · subst he; exact List.take_prefix _ _
  · exact complete h hc _ u (Nat.le_refl _) (by omega) hl
theorem Comm.led {sz : Nat} {g : Gh α} (h : GOK tm sz g) {t : Int} {i : Nat} (hc : Comm tm sz g t i) : (g.ld t).isSome = true := by
  cases hl : g.ld t with
  | some c => rfl
  | none =>
    obtain ⟨x, hx, _⟩ := hc.at'
    rw [h.nl t hl] at hx
    cases hx
/-- What is committed is one log's beginning. -/
def Pre (tm : α → Int) (sz : Nat) (g : Gh α) (l : List α) (top : Int) : Prop := l = [] ∨ ∃ t i, Comm tm sz g t i ∧ l.length ≤ i ∧ l <+: g.L t ∧ t ≤ top
theorem Pre.nil {sz : Nat} {g : Gh α} {top : Int} : Pre tm sz g [] top := .inl rfl
theorem Pre.up {sz : Nat} {g : Gh α} {l : List α} {a b : Int} (h : Pre tm sz g l a) (hab : a ≤ b) : Pre tm sz g l b := by
  rcases h with h | ⟨t, i, h1, h2, h3, h4⟩
  · exact .inl h
  · exact .inr ⟨t, i, h1, h2, h3, by omega⟩
theorem Pre.less {sz : Nat} {g : Gh α} {l k : List α} {a : Int} (h : Pre tm sz g l a) (hk : k <+: l) : Pre tm sz g k a := by
  rcases h with h | ⟨t, i, h1, h2, h3, h4⟩
  · subst h
    exact .inl (List.prefix_nil.1 hk)
  · exact .inr ⟨t, i, h1, Nat.le_trans hk.length_le h2, hk.trans h3, h4⟩
/-- A leader of that term or a later one has it. -/
theorem Pre.leader {sz : Nat} {g : Gh α} (h : GOK tm sz g) {l : List α} {a u : Int} (hp : Pre tm sz g l a) (hu : a ≤ u) (hl : (g.ld u).isSome = true) : l <+: g.L u := by
  rcases hp with h0 | ⟨t, i, h1, h2, h3, h4⟩
  · subst h0; exact List.nil_prefix
  · have := complete' h h1 (u := u) (by omega) hl
    have e : l = (g.L t).take l.length := by rw [← pre_eq h3 (Nat.le_refl _), List.take_length]
    rw [e]
    exact (take_pre _ h2).trans this
theorem Pre.agree {sz : Nat} {g : Gh α} (h : GOK tm sz g) {l k : List α} {a b : Int} (hl : Pre tm sz g l a) (hk : Pre tm sz g k b) (hle : l.length ≤ k.length) : l <+: k := by
  rcases hl with h0 | ⟨t, i, h1, h2, h3, h4⟩
  · subst h0; exact List.nil_prefix
  rcases hk with h0 | ⟨u, j, g1, g2, g3, g4⟩
  · subst h0
    have : l = [] := List.eq_nil_of_length_eq_zero (by simpa using hle)
    subst this; exact List.nil_prefix
  -- both in the later leader's log
  by_cases htu : t ≤ u
  · exact pre_two (Pre.leader h (.inr ⟨t, i, h1, h2, h3, Int.le_refl _⟩) htu (g1.led h)) g3 hle
  · exact pre_two h3 (Pre.leader h (.inr ⟨u, j, g1, g2, g3, Int.le_refl _⟩) (by omega) (h1.led h)) hle
end Go.Proofs.Ytjpjiniclibgkaa.Sx.Safe

namespace Go.Proofs.Ytjpjiniclibgkaa.Sx.Safe

variable {α : Type} {tm : α → Int}
/-- A node's move, in the term T: of what is thought of, only what is of that node and that term changes. -/
structure Grow (tm : α → Int) (v : Nat) (T : Int) (g g' : Gh α) : Prop where
  L : ∀ t, t ≠ T → g'.L t = g.L t
  LT : (∃ xs, g'.L T = g.L T ++ xs ∧ ∀ x ∈ xs, tm x = T) ∨ g.ld T = none
  ldk : ∀ t c, g.ld t = some c → g'.ld t = some c
  ldo : ∀ t, t ≠ T → g'.ld t = g.ld t
  C : ∀ w t, (w ≠ v ∨ t ≠ T) → g'.C w t = g.C w t
  Cn : g'.C v T = g.C v T ∨ ∀ w, g.V w T ≠ some v
  V : ∀ w t, (w ≠ v ∨ t ≠ T) → g'.V w t = g.V w t
  Vk : ∀ c, g.V v T = some c → g'.V v T = some c
  A : ∀ w t, (w ≠ v ∨ t ≠ T) → g'.A w t = g.A w t
  Ak : g.A v T ≤ g'.A v T
theorem Grow.refl (v : Nat) (T : Int) (g : Gh α) : Grow tm v T g g :=
  ⟨fun _ _ => rfl, .inl ⟨[], by simp, fun _ h => by cases h⟩, fun _ _ h => h, fun _ _ => rfl, fun _ _ _ => rfl, .inl rfl, fun _ _ _ => rfl, fun _ h => h, fun _ _ _ => rfl, Nat.le_refl _⟩
section grow
variable {sz v : Nat} {T : Int} {g g' : Gh α}
theorem Grow.led (h : Grow tm v T g g') {t : Int} (hl : (g.ld t).isSome = true) : (g'.ld t).isSome = true := by
  cases hc : g.ld t with
  | none => rw [hc] at hl; cases hl
  | some c => rw [h.ldk t c hc]; rfl
theorem Grow.pre (h : Grow tm v T g g') (hg : GOK tm sz g) (t : Int) : g.L t <+: g'.L t := by
  by_cases ht : t = T
  · subst ht
    rcases h.LT with ⟨xs, hx, _⟩ | hn
    · rw [hx]; exact List.prefix_append _ _
    · rw [hg.nl t hn]; exact List.nil_prefix
  · rw [h.L t ht]; exact List.prefix_refl _
theorem Grow.take (h : Grow tm v T g g') (hg : GOK tm sz g) {t : Int} {i : Nat} (hi : i ≤ (g.L t).length) : (g'.L t).take i = (g.L t).take i := (pre_eq (h.pre hg t) hi).symm
theorem Grow.at' (h : Grow tm v T g g') (hg : GOK tm sz g) {t u : Int} {i : Nat} (h0 : 0 < i) (hi : i ≤ (g.L t).length) : At tm (g'.L t) i u ↔ At tm (g.L t) i u := by
  have hlt : i - 1 < (g.L t).length := by omega
  have e := pre_get (h.pre hg t) (List.getElem?_eq_getElem hlt)
  unfold At
  rw [e, List.getElem?_eq_getElem hlt]
theorem Grow.acks (h : Grow tm v T g g') (w : Nat) (t : Int) : g.A w t ≤ g'.A w t := by
  by_cases hw : w = v
  · by_cases ht : t = T
    · subst hw ht; exact h.Ak
    · rw [h.A w t (.inr ht)]; exact Nat.le_refl _
  · rw [h.A w t (.inl hw)]; exact Nat.le_refl _
theorem Grow.voted (h : Grow tm v T g g') {w c : Nat} {t : Int} (hv : g.V w t = some c) : g'.V w t = some c := by
  by_cases hw : w = v
  · by_cases ht : t = T
    · subst hw ht; exact h.Vk c hv
    · rw [h.V w t (.inr ht)]; exact hv
  · rw [h.V w t (.inl hw)]; exact hv
/-- What a leader lacks of an earlier one's log, it lacks for good. -/
theorem Grow.lack (h : Grow tm v T g g') (hg : GOK tm sz g) {t u : Int} {i : Nat} (htu : t < u) (hi : i ≤ (g.L t).length) (hl : Lack g t i u) : Lack g' t i u := by
  refine ⟨h.led hl.1, fun hp => hl.2 ?_⟩
  rw [h.take hg hi] at hp
  by_cases hu : u = T
  · subst hu
    rcases h.LT with ⟨xs, hx, hxt⟩ | hn
    · rw [hx] at hp
      by_cases hlen : ((g.L t).take i).length ≤ (g.L u).length
      · exact pre_two hp (List.prefix_append _ _) hlen
      · -- the first new entry would be of an earlier term
        exfalso
        have hlen : (g.L u).length < ((g.L t).take i).length := by omega
        have hx1 := List.getElem?_eq_getElem hlen
        have hx2 := pre_get hp hx1
        rw [List.getElem?_append_right (Nat.le_refl _), Nat.sub_self] at hx2
        have hmem := List.mem_of_getElem? hx2
        have h1 := hxt _ hmem
        have hin := pre_get (List.take_prefix i (g.L t)) hx1
        have h2 := (hg.lm t _ _ hin).1
        omega
    · have := hl.1
      rw [hn] at this; cases this
  · rwa [h.L u hu] at hp
theorem Grow.grown (h : Grow tm v T g g') (hg : GOK tm sz g) {l : List α} {top : Int} (hl : Grown tm g l top) : Grown tm g' l top := fun i x hx => by
  obtain ⟨h1, h2, h3⟩ := hl i x hx
  exact ⟨h1, h.led h2, h3.trans (h.pre hg _)⟩
theorem Grow.vote (h : Grow tm v T g g') (hg : GOK tm sz g) {w c : Nat} {u : Int} (hv : g.V w u = some c) (hu : w = v → u ≤ T) (hok : VoteOK tm g w c u) : VoteOK tm g' w c u := by
  intro t i ht h0 hi hat
  have hA : g'.A w t = g.A w t := by
    by_cases hw : w = v
    · exact h.A w t (.inr (by have := hu hw; omega))
    · exact h.A w t (.inl hw)
  rw [hA] at hi
  have hil : i ≤ (g.L t).length := Nat.le_trans hi (hg.al w t)
  rw [h.at' hg h0 hil] at hat
  rw [h.take hg hil]
  rcases hok t i ht h0 hi hat with h1 | ⟨s, h1, h2, h3⟩
  · refine .inl ?_
    have : g'.C c u = g.C c u := by
      by_cases hc : c = v
      · by_cases ht : u = T
        · subst hc ht
          rcases h.Cn with hC | hC
          · exact hC
          · exact absurd hv (hC w)
        · exact h.C c u (.inr ht)
      · exact h.C c u (.inl hc)
    rw [this]; exact h1
  · exact .inr ⟨s, h1, h2, h.lack hg h1 hil h3⟩
theorem Grow.comm (h : Grow tm v T g g') (hg : GOK tm sz g) {t : Int} {i : Nat} (hc : Comm tm sz g t i) : Comm tm sz g' t i :=
  ⟨hc.pos, (h.at' hg hc.pos (hc.at'.le hc.pos)).2 hc.at', hc.most.mono fun k _ hk => decide_eq_true (Nat.le_trans (of_decide_eq_true hk) (h.acks k t))⟩
theorem Grow.preOf (h : Grow tm v T g g') (hg : GOK tm sz g) {l : List α} {a : Int} (hp : Pre tm sz g l a) : Pre tm sz g' l a := by
  rcases hp with h0 | ⟨t, i, h1, h2, h3, h4⟩
  · exact .inl h0
  · exact .inr ⟨t, i, h.comm hg h1, h2, h3.trans (h.pre hg t), h4⟩
/-- The leaders' logs, behind a move. -/
theorem Grow.ok (h : Grow tm v T g g') (hg : GOK tm sz g) (hV : ∀ c u, g.V v u = some c → u ≤ T) (lmT : Grown tm g' (g'.L T) T) (upT : Up tm (g'.L T))
    (elT : ∀ c, g'.ld T = some c → g.ld T = some c ∨ ∃ q, Most sz q ∧ ∀ w, w < sz → q w = true → g'.V w T = some c ∧ VoteOK tm g' w c T)
    (clT : ∀ c, g'.ld T = some c → g'.C c T <+: g'.L T) (alT : g'.A v T ≤ (g'.L T).length) (nlT : g'.ld T = none → g'.L T = []) : GOK tm sz g' := by
  have old : ∀ t c, g.ld t = some c → ∃ q, Most sz q ∧ ∀ w, w < sz → q w = true → g'.V w t = some c ∧ VoteOK tm g' w c t := fun t c hc => by
    obtain ⟨q, hq, hv⟩ := hg.el t c hc
    refine ⟨q, hq, fun w hw hqw => ?_⟩
    obtain ⟨h1, h2⟩ := hv w hw hqw
    exact ⟨h.voted h1, h.vote hg h1 (fun e => hV c t (e ▸ h1)) h2⟩
  refine ⟨fun t => ?_, fun t => ?_, fun t c hc => ?_, fun t c hc => ?_, fun w t => ?_, fun t ht => ?_⟩
  · by_cases ht : t = T
    · subst ht; exact lmT
    · rw [h.L t ht]; exact h.grown hg (hg.lm t)
  · by_cases ht : t = T
    · subst ht; exact upT
    · rw [h.L t ht]; exact hg.up t
  · by_cases ht : t = T
    · subst ht
      rcases elT c hc with h1 | h1
      · exact old t c h1
      · exact h1
    · rw [h.ldo t ht] at hc
      exact old t c hc
  · by_cases ht : t = T
    · subst ht; exact clT c hc
    · rw [h.ldo t ht] at hc
      rw [h.L t ht, h.C c t (.inr ht)]
      exact hg.cl t c hc
  · by_cases ht : t = T
    · subst ht
      by_cases hw : w = v
      · subst hw; exact alT
      · rw [h.A w t (.inl hw)]
        exact Nat.le_trans (hg.al w t) (h.pre hg t).length_le
    · rw [h.A w t (.inr ht), h.L t ht]; exact hg.al w t
  · by_cases hT : t = T
    · subst hT; exact nlT ht
    · rw [h.ldo t hT] at ht
      rw [h.L t hT]; exact hg.nl t ht
end grow

/-! ### nodes, thought of -/
structure AN (α : Type) where
  F : List α
  term : Int
  vote : Option Nat
  role : Nat
  com : Nat
  bits : Nat → Bool
  mat : Nat → Nat
/-- What a node said to have, it has, or a leader since then lacks it. -/
def Keep (tm : α → Int) (g : Gh α) (v : Nat) (F : List α) (top : Int) : Prop := ∀ t i, 0 < i → i ≤ g.A v t → At tm (g.L t) i t → (g.L t).take i <+: F ∨ ∃ u, t < u ∧ u ≤ top ∧ Lack g t i u
structure NOK (tm : α → Int) (sz : Nat) (g : Gh α) (v : Nat) (a : AN α) : Prop where
  lm : Grown tm g a.F a.term
  up : Up tm a.F
  vt : g.V v a.term = a.vote
  vn : ∀ t, a.term < t → g.V v t = none
  an : ∀ t, a.term < t → g.A v t = 0
  me : ∀ w t, g.V w t = some v → t ≤ a.term
  ld : ∀ t, g.ld t = some v → t ≤ a.term
  ca : a.role = 1 → g.C v a.term = a.F ∧ (∀ w, w < sz → a.bits w = true → g.V w a.term = some v) ∧ (∀ x ∈ a.F, tm x < a.term) ∧ g.ld a.term ≠ some v ∧ 0 < a.term
  le : a.role = 2 → g.ld a.term = some v ∧ a.F = g.L a.term ∧ ∀ k, k < sz → a.mat k ≤ g.A k a.term
  kp : Keep tm g v a.F a.term
  cl : a.com ≤ a.F.length
  cp : Pre tm sz g (a.F.take a.com) a.term
/-- The votes that may still count. -/
def Open (tm : α → Int) (g : Gh α) : Prop := ∀ w c u, g.V w u = some c → g.ld u = none → VoteOK tm g w c u
section nodes
variable {sz v : Nat} {T : Int} {g g' : Gh α}
/-- Another node, behind a move. -/
theorem NOK.other (h : Grow tm v T g g') (hg : GOK tm sz g) {w : Nat} (hw : w ≠ v) {a : AN α} (hn : NOK tm sz g w a) (hself : g'.V v T = some w → g.V v T = some w ∨ T ≤ a.term) (hld : ∀ t, g'.ld t = some w → g.ld t = some w)
    (hL : g.ld T = some w → g'.L T = g.L T) : NOK tm sz g' w a := by
  refine ⟨h.grown hg hn.lm, hn.up, by rw [h.V w _ (.inl hw)]; exact hn.vt, fun t ht => by rw [h.V w t (.inl hw)]; exact hn.vn t ht, fun t ht => by rw [h.A w t (.inl hw)]; exact hn.an t ht, fun x t hx => ?_, fun t ht => hn.ld t (hld t ht),
    fun hr => ?_, fun hr => ?_, fun t i h0 hi hat => ?_, hn.cl, h.preOf hg hn.cp⟩
  · by_cases hxv : x = v
    · by_cases ht : t = T
      · subst hxv ht
        rcases hself hx with h1 | h1
        · exact hn.me _ _ h1
        · exact h1
      · rw [h.V x t (.inr ht)] at hx; exact hn.me _ _ hx
    · rw [h.V x t (.inl hxv)] at hx; exact hn.me _ _ hx
  · obtain ⟨h1, h2, h3, h4, h5⟩ := hn.ca hr
    exact ⟨by rw [h.C w _ (.inl hw)]; exact h1, fun x hx hb => h.voted (h2 x hx hb), h3, fun hc => h4 (hld _ hc), h5⟩
  · obtain ⟨h1, h2, h3⟩ := hn.le hr
    refine ⟨h.ldk _ _ h1, ?_, fun k hk => Nat.le_trans (h3 k hk) (h.acks k _)⟩
    rw [h2]
    by_cases ht : a.term = T
    · rw [ht] at h1 ⊢; exact (hL h1).symm
    · exact (h.L _ ht).symm
  · rw [h.A w t (.inl hw)] at hi
    have hil : i ≤ (g.L t).length := Nat.le_trans hi (hg.al w t)
    rw [h.at' hg h0 hil] at hat
    rw [h.take hg hil]
    rcases hn.kp t i h0 hi hat with h1 | ⟨u, h1, h2, h3⟩
    · exact .inl h1
    · exact .inr ⟨u, h1, h2, h.lack hg h1 hil h3⟩
end nodes
end Go.Proofs.Ytjpjiniclibgkaa.Sx.Safe

namespace Go.Proofs.Ytjpjiniclibgkaa.Sx.Safe

variable {α : Type} {tm : α → Int} {sz v : Nat} {g g' : Gh α}
theorem Grown.less {l k : List α} {top : Int} (h : Grown tm g l top) (hk : k <+: l) : Grown tm g k top := fun i x hx => by
  obtain ⟨h1, h2, h3⟩ := h i x (pre_get hk hx)
  have hi := (List.getElem?_eq_some_iff.1 hx).1
  exact ⟨h1, h2, by rw [pre_eq hk (by omega)]; exact h3⟩
theorem Grown.top {l : List α} {a b : Int} (h : Grown tm g l a) (hab : a ≤ b) : Grown tm g l b := fun i x hx => by
  obtain ⟨h1, h2⟩ := h i x hx
  exact ⟨by omega, h2⟩
theorem Up.less {l k : List α} (h : Up tm l) (hk : k <+: l) : Up tm k := fun i j x y hij hx hy => h i j x y hij (pre_get hk hx) (pre_get hk hy)
/-- The last entry's term; 0 for none. -/
def endTm (tm : α → Int) (l : List α) : Int := match l.getLast? with
  | some x => tm x
  | none => 0
theorem endTm_at {l : List α} {x : α} (h : l[l.length - 1]? = some x) : endTm tm l = tm x := by
  unfold endTm
  rw [List.getLast?_eq_getElem?, h]
/-- The last entry of a log: the log is that leader's beginning. -/
theorem Grown.last {l : List α} {top : Int} (h : Grown tm g l top) {x : α} (hx : l[l.length - 1]? = some x) : (g.ld (tm x)).isSome = true ∧ l <+: g.L (tm x) := by
  obtain ⟨_, h2, h3⟩ := h _ x hx
  have hl := (List.getElem?_eq_some_iff.1 hx).1
  rw [show l.length - 1 + 1 = l.length by omega, List.take_length] at h3
  exact ⟨h2, h3⟩
/-- A vote for a log that is not behind. -/
theorem vote_ok (hg : GOK tm sz g) (hpos : ∀ t, t ≤ 0 → g.ld t = none) {F : List α} {T : Int} {c : Nat} (hk : Keep tm g v F T) (hF : Grown tm g F T) (hU : Up tm F) (hC : Grown tm g (g.C c T) T) (hUC : Up tm (g.C c T)) (hlt : ∀ x ∈ g.C c T, tm x < T) (hno : g.ld T = none)
    (hnew : endTm tm F < endTm tm (g.C c T) ∨ (endTm tm F = endTm tm (g.C c T) ∧ F.length ≤ (g.C c T).length)) : VoteOK tm g v c T := by
  intro t i ht h0 hi hat
  rcases hk t i h0 hi hat with h1 | ⟨u, h1, h2, h3⟩
  · -- the voter has it
    obtain ⟨z, hz, hzt⟩ := hat
    have hil : i ≤ (g.L t).length := Nat.le_trans hi (hg.al v t)
    have hzt' : (g.ld t).isSome = true := by
      have := (hg.lm t _ z hz).2.1
      rwa [hzt] at this
    have hzF : F[i - 1]? = some z := pre_get h1 (by rw [List.getElem?_take, if_pos (by omega)]; exact hz)
    have hiF := (List.getElem?_eq_some_iff.1 hzF).1
    have hFl : F.length - 1 < F.length := by omega
    have hy := List.getElem?_eq_getElem hFl
    obtain ⟨y, hyd⟩ : ∃ y, y = F[F.length - 1] := ⟨_, rfl⟩
    rw [← hyd] at hy
    have hty := hU (i - 1) (F.length - 1) z y (by omega) hzF hy
    have hey := endTm_at (tm := tm) hy
    have hpt : 0 < t := by
      refine Classical.byContradiction fun hc => ?_
      rw [hpos t (by omega)] at hzt'
      cases hzt'
    -- the candidate's log is not empty
    have hCl : 0 < (g.C c T).length := by
      refine Nat.pos_of_ne_zero fun hc => ?_
      have hnil : g.C c T = [] := List.eq_nil_of_length_eq_zero hc
      rw [hnil] at hnew
      have he : endTm tm ([] : List α) = 0 := rfl
      rw [he] at hnew
      omega
    have hCl2 : (g.C c T).length - 1 < (g.C c T).length := by omega
    have hx := List.getElem?_eq_getElem hCl2
    obtain ⟨x, hxd⟩ : ∃ x, x = (g.C c T)[(g.C c T).length - 1] := ⟨_, rfl⟩
    rw [← hxd] at hx
    have hex := endTm_at (tm := tm) hx
    rw [hey, hex] at hnew
    obtain ⟨_, hyL⟩ := hF.last hy
    obtain ⟨hxl, hxL⟩ := hC.last hx
    rcases hnew with hn | ⟨hn, hnl⟩
    · by_cases hlack : (g.L t).take i <+: g.L (tm x)
      · refine .inl (pre_two hlack hxL ?_)
        -- an entry of a later term stands behind it
        rw [List.length_take]
        refine Classical.byContradiction fun hc => ?_
        have hci : (g.C c T).length - 1 ≤ i - 1 := by omega
        have hz2 : (g.L (tm x))[i - 1]? = some z := pre_get hlack (by rw [List.getElem?_take, if_pos (by omega)]; exact hz)
        have hx2 := pre_get hxL hx
        have := hg.up (tm x) _ _ x z hci hx2 hz2
        omega
      · exact .inr ⟨tm x, by omega, hlt x (List.mem_of_getElem? hx), hxl, hlack⟩
    · rw [← hn] at hxL
      exact .inl (h1.trans (pre_two hyL hxL hnl))
  · refine .inr ⟨u, h1, ?_, h3⟩
    have : u ≠ T := fun e => by
      subst e
      have := h3.1
      rw [hno] at this; cases this
    omega
end Go.Proofs.Ytjpjiniclibgkaa.Sx.Safe

namespace Go.Proofs.Ytjpjiniclibgkaa.Sx.Safe

variable {α : Type} {tm : α → Int} {sz v : Nat} {g g' : Gh α} {a : AN α}
/-- What is known ahead of a move. -/
structure Sure (tm : α → Int) (sz : Nat) (g : Gh α) (v : Nat) (a : AN α) : Prop where
  ok : GOK tm sz g
  op : Open tm g
  ps : ∀ t, t ≤ 0 → g.ld t = none
  nk : NOK tm sz g v a
  t0 : 0 ≤ a.term
/-- And behind it. -/
structure Moved (tm : α → Int) (sz : Nat) (g g' : Gh α) (v : Nat) (a a' : AN α) (asked : Nat → Prop) : Prop where
  gr : Grow tm v a'.term g g'
  su : Sure tm sz g' v a'
  tl : a.term ≤ a'.term
  ld : ∀ t w, g'.ld t = some w → g.ld t = some w ∨ w = v
  lo : ∀ w, w ≠ v → g.ld a'.term = some w → g'.L a'.term = g.L a'.term
  vo : ∀ w, w ≠ v → g'.V v a'.term = some w → g.V v a'.term = some w ∨ asked w
theorem Sure.hV (h : Sure tm sz g v a) {T : Int} (hT : a.term ≤ T) : ∀ c u, g.V v u = some c → u ≤ T := fun c u hc => by
  refine Classical.byContradiction fun hn => ?_
  rw [h.nk.vn u (by omega)] at hc
  cases hc
/-- Nothing that is thought of changes. -/
theorem Moved.still (h : Sure tm sz g v a) {a' : AN α} (hn : NOK tm sz g v a') (ht : a.term ≤ a'.term) {asked : Nat → Prop} : Moved tm sz g g v a a' asked :=
  ⟨.refl _ _ _, ⟨h.ok, h.op, h.ps, hn, by have := h.t0; omega⟩, ht, fun _ _ h => .inl h, fun _ _ _ => rfl, fun _ _ h => .inl h⟩
theorem Keep.top {F : List α} {x y : Int} (h : Keep tm g v F x) (hxy : x ≤ y) : Keep tm g v F y := fun t i h0 hi hat => by
  rcases h t i h0 hi hat with h1 | ⟨u, h1, h2, h3⟩
  · exact .inl h1
  · exact .inr ⟨u, h1, by omega, h3⟩
/-- A term is passed over to, or a role left; votes, what is known of the others, and part of the commit may be forgotten. -/
theorem Sure.down (h : Sure tm sz g v a) {a' : AN α} (hF : a'.F = a.F) (ht : a.term ≤ a'.term) (hv : a'.vote = if a.term < a'.term then none else a.vote) (hr : a'.role = 0) (hc : a'.com ≤ a.com) : Moved tm sz g g v a a' (fun _ => False) := by
  have hn := h.nk
  refine .still h ⟨by rw [hF]; exact hn.lm.top ht, by rw [hF]; exact hn.up, ?_, fun t h1 => hn.vn t (by omega), fun t h1 => hn.an t (by omega), fun w t h1 => by have := hn.me w t h1; omega, fun t h1 => by have := hn.ld t h1; omega, fun h1 => by omega, fun h1 => by omega,
    by rw [hF]; exact hn.kp.top ht, by rw [hF]; have := hn.cl; omega, ?_⟩ ht
  · rw [hv]
    split
    · rename_i hlt; exact hn.vn _ hlt
    · have : a'.term = a.term := by omega
      rw [this]; exact hn.vt
  · rw [hF]
    exact (hn.cp.less (take_pre _ hc)).up ht
/-- The commit goes on; what is known of the others changes. -/
theorem Sure.on (h : Sure tm sz g v a) {a' : AN α} (hF : a'.F = a.F) (ht : a'.term = a.term) (hv : a'.vote = a.vote) (hr : a'.role = a.role) (hb : ∀ w, w < sz → a'.bits w = true → a.bits w = true ∨ g.V w a.term = some v) (hm : a.role = 2 → ∀ k, k < sz → a'.mat k ≤ g.A k a.term) (hcl : a'.com ≤ a.F.length) (hcp : Pre tm sz g (a.F.take a'.com) a.term) {asked : Nat → Prop} : Moved tm sz g g v a a' asked := by
  have hn := h.nk
  refine .still h ⟨by rw [hF, ht]; exact hn.lm, by rw [hF]; exact hn.up, by rw [ht, hv]; exact hn.vt, by rw [ht]; exact hn.vn, by rw [ht]; exact hn.an, by rw [ht]; exact hn.me, by rw [ht]; exact hn.ld, fun h1 => ?_, fun h1 => ?_, by rw [hF, ht]; exact hn.kp, by rw [hF]; exact hcl, by rw [hF, ht]; exact hcp⟩ (by omega)
  · rw [hr] at h1
    obtain ⟨h2, h3, h4, h5⟩ := hn.ca h1
    rw [hF, ht]
    refine ⟨h2, fun w hw hwb => ?_, h4, h5⟩
    rcases hb w hw hwb with h6 | h6
    · exact h3 w hw h6
    · exact h6
  · rw [hr] at h1
    obtain ⟨h2, h3, _⟩ := hn.le h1
    rw [hF, ht]
    exact ⟨h2, h3, hm h1⟩
/-- A vote is given. -/
theorem Sure.vote (h : Sure tm sz g v a) {c : Nat} (hcv : c ≠ v) (hv : a.vote = none ∨ a.vote = some c) (hC : Grown tm g (g.C c a.term) a.term) (hUC : Up tm (g.C c a.term)) (hlt : ∀ x ∈ g.C c a.term, tm x < a.term)
    (hnew : endTm tm a.F < endTm tm (g.C c a.term) ∨ (endTm tm a.F = endTm tm (g.C c a.term) ∧ a.F.length ≤ (g.C c a.term).length)) :
    ∃ g' : Gh α, Moved tm sz g g' v a { a with vote := some c } (fun w => w = c) ∧ g'.V v a.term = some c ∧ g'.L = g.L := by
  have hn := h.nk
  have hg := h.ok
  obtain ⟨g', hg'⟩ : ∃ g' : Gh α, g' = { g with V := fun w t => if w = v ∧ t = a.term then some c else g.V w t } := ⟨_, rfl⟩
  have hV : g'.V v a.term = some c := by rw [hg']; exact if_pos ⟨rfl, rfl⟩
  have hVo : ∀ w t, (w ≠ v ∨ t ≠ a.term) → g'.V w t = g.V w t := fun w t hwt => by
    rw [hg']
    refine if_neg fun hc => ?_
    rcases hwt with h1 | h1
    · exact h1 hc.1
    · exact h1 hc.2
  have hVk : ∀ x, g.V v a.term = some x → g'.V v a.term = some x := fun x hx => by
    rw [hn.vt] at hx
    rw [hV]
    rcases hv with h1 | h1 <;> rw [h1] at hx
    · cases hx
    · exact hx
  have gr : Grow tm v a.term g g' := by
    refine ⟨fun t _ => by rw [hg'], .inl ⟨[], by rw [hg', List.append_nil], fun _ h => by cases h⟩, fun t x hx => by rw [hg']; exact hx, fun t _ => by rw [hg'], fun w t _ => by rw [hg'], .inl (by rw [hg']), hVo, hVk, fun w t _ => by rw [hg'], by rw [hg']; exact Nat.le_refl _⟩
  have hL : g'.L = g.L := by rw [hg']
  have hld : g'.ld = g.ld := by rw [hg']
  have hA : g'.A = g.A := by rw [hg']
  have hCe : g'.C = g.C := by rw [hg']
  have ok : GOK tm sz g' := gr.ok hg (h.hV (Int.le_refl _)) (by rw [hL]; exact gr.grown hg (hg.lm _)) (by rw [hL]; exact hg.up _) (fun x hx => .inl (by rw [hld] at hx; exact hx)) (fun x hx => by rw [hL, hCe]; rw [hld] at hx; exact hg.cl _ x hx) (by rw [hL, hA]; exact hg.al _ _) (fun hx => by rw [hL]; rw [hld] at hx; exact hg.nl _ hx)
  have mine : g.ld a.term = none → VoteOK tm g v c a.term := fun hno => vote_ok hg h.ps hn.kp hn.lm hn.up hC hUC hlt hno hnew
  have lk : ∀ t i u, Lack g t i u ↔ Lack g' t i u := fun t i u => by unfold Lack; rw [hL, hld]
  have vo : ∀ w x u, VoteOK tm g w x u → VoteOK tm g' w x u := fun w x u hx t i h1 h2 h3 h4 => by
    rw [hA] at h3
    rw [hL] at h4
    rcases hx t i h1 h2 h3 h4 with h5 | ⟨s, h5, h6, h7⟩
    · exact .inl (by rw [hL, hCe]; exact h5)
    · exact .inr ⟨s, h5, h6, (lk _ _ _).1 h7⟩
  refine ⟨g', ⟨gr, ⟨ok, fun w x u hx hu => ?_, fun t ht => by rw [hld]; exact h.ps t ht, ?_, h.t0⟩, Int.le_refl _, fun t w hw => .inl (by rw [hld] at hw; exact hw), fun w _ _ => by rw [hL], fun w _ hw => .inr ?_⟩, hV, hL⟩
  · rw [hld] at hu
    by_cases hwu : w = v ∧ u = a.term
    · obtain ⟨rfl, rfl⟩ := hwu
      rw [hV] at hx
      cases hx
      exact vo _ _ _ (mine hu)
    · have : w ≠ v ∨ u ≠ a.term := by
        by_cases hw : w = v
        · exact .inr fun hu => hwu ⟨hw, hu⟩
        · exact .inl hw
      rw [hVo w u this] at hx
      exact vo _ _ _ (h.op w x u hx hu)
  · refine ⟨gr.grown hg hn.lm, hn.up, hV, fun t ht => ?_, fun t ht => by rw [hA]; exact hn.an t ht, fun w t hw => ?_, fun t ht => by rw [hld] at ht; exact hn.ld t ht, fun hr => ?_, fun hr => ?_, fun t i h0 hi hat => ?_, hn.cl, gr.preOf hg hn.cp⟩
    · have ht : a.term < t := ht
      rw [hVo v t (.inr (by omega))]; exact hn.vn t ht
    · by_cases hwt : w = v ∧ t = a.term
      · obtain ⟨rfl, rfl⟩ := hwt
        exact Int.le_refl _
      · rw [hg'] at hw
        have hw : (if w = v ∧ t = a.term then some c else g.V w t) = some v := hw
        rw [if_neg hwt] at hw
        exact hn.me w t hw
    · obtain ⟨h1, h2, h3, h4⟩ := hn.ca hr
      refine ⟨by rw [hCe]; exact h1, fun w hw hb => ?_, h3, by rw [hld]; exact h4⟩
      have := h2 w hw hb
      by_cases hwv : w = v
      · subst hwv
        rw [hn.vt] at this
        rcases hv with h5 | h5 <;> rw [h5] at this
        · cases this
        · cases this; exact absurd rfl hcv
      · show g'.V w a.term = some v
        rw [hVo w _ (.inl hwv)]; exact this
    · obtain ⟨h1, h2, h3⟩ := hn.le hr
      exact ⟨by rw [hld]; exact h1, by rw [hL]; exact h2, fun k hk => by rw [hA]; exact h3 k hk⟩
    · rw [hA] at hi
      rw [hL] at hat ⊢
      rcases hn.kp t i h0 hi hat with h1 | ⟨u, h1, h2, h3⟩
      · exact .inl h1
      · exact .inr ⟨u, h1, h2, (lk _ _ _).1 h3⟩
  · have hw : g'.V v a.term = some w := hw
    rw [hV] at hw
    cases hw; rfl
end Go.Proofs.Ytjpjiniclibgkaa.Sx.Safe

namespace Go.Proofs.Ytjpjiniclibgkaa.Sx.Safe

variable {α : Type} {tm : α → Int} {sz v : Nat} {g g' : Gh α} {a : AN α}
/-- A node becomes a candidate, in the next term. -/
theorem Sure.cand (h : Sure tm sz g v a) {a' : AN α} (hF : a'.F = a.F) (ht : a'.term = a.term + 1) (hv : a'.vote = some v) (hr : a'.role = 1) (hb : ∀ w, w < sz → a'.bits w = true → w = v) (hc : a'.com = a.com) :
    ∃ g' : Gh α, Moved tm sz g g' v a a' (fun _ => False) ∧ g'.C v a'.term = a.F ∧ g'.L = g.L := by
  have hn := h.nk
  have hg := h.ok
  have h0 := h.t0
  obtain ⟨T, hT⟩ : ∃ T, T = a'.term := ⟨_, rfl⟩
  have hTa : a.term < T := by omega
  obtain ⟨g', hg'⟩ : ∃ g' : Gh α, g' = { g with V := fun w t => if w = v ∧ t = T then some v else g.V w t, C := fun w t => if w = v ∧ t = T then a.F else g.C w t } := ⟨_, rfl⟩
  have hV : g'.V v T = some v := by rw [hg']; exact if_pos ⟨rfl, rfl⟩
  have hCv : g'.C v T = a.F := by rw [hg']; exact if_pos ⟨rfl, rfl⟩
  have hne : ∀ w t, (w ≠ v ∨ t ≠ T) → ¬ (w = v ∧ t = T) := fun w t hwt hc => by
    rcases hwt with h1 | h1
    · exact h1 hc.1
    · exact h1 hc.2
  have hVo : ∀ w t, (w ≠ v ∨ t ≠ T) → g'.V w t = g.V w t := fun w t hwt => by rw [hg']; exact if_neg (hne w t hwt)
  have hCo : ∀ w t, (w ≠ v ∨ t ≠ T) → g'.C w t = g.C w t := fun w t hwt => by rw [hg']; exact if_neg (hne w t hwt)
  have hL : g'.L = g.L := by rw [hg']
  have hld : g'.ld = g.ld := by rw [hg']
  have hA : g'.A = g.A := by rw [hg']
  have hnoV : ∀ w, g.V w T ≠ some v := fun w hw => by have := hn.me w T hw; omega
  have gr : Grow tm v T g g' :=
    ⟨fun t _ => by rw [hL], .inl ⟨[], by rw [hL, List.append_nil], fun _ h => by cases h⟩, fun t x hx => by rw [hld]; exact hx, fun t _ => by rw [hld], hCo, .inr hnoV, hVo, fun c hc => (by rw [hn.vn T hTa] at hc; cases hc), fun w t _ => by rw [hA], by rw [hA]; exact Nat.le_refl _⟩
  have hnl : g.ld T ≠ some v := fun hc => by have := hn.ld T hc; omega
  have ok : GOK tm sz g' := gr.ok hg (h.hV (Int.le_of_lt hTa)) (by rw [hL]; exact gr.grown hg (hg.lm _)) (by rw [hL]; exact hg.up _) (fun x hx => .inl (by rw [hld] at hx; exact hx))
    (fun x hx => by
      rw [hld] at hx
      have : x ≠ v := fun e => by subst e; exact hnl hx
      rw [hL, hCo x T (.inl this)]; exact hg.cl _ x hx) (by rw [hL, hA]; exact hg.al _ _) (fun hx => by rw [hL]; rw [hld] at hx; exact hg.nl _ hx)
  have lk : ∀ t i u, Lack g t i u ↔ Lack g' t i u := fun t i u => by unfold Lack; rw [hL, hld]
  refine ⟨g', ⟨hT ▸ gr, ⟨ok, fun w x u hx hu => ?_, fun t ht => by rw [hld]; exact h.ps t ht, ?_, by omega⟩, by omega, fun t w hw => .inl (by rw [hld] at hw; exact hw), fun w _ _ => by rw [hL], fun w hw hx => ?_⟩, hT ▸ hCv, hL⟩
  · rw [hld] at hu
    by_cases hwu : w = v ∧ u = T
    · obtain ⟨rfl, rfl⟩ := hwu
      rw [hV] at hx
      cases hx
      intro t i ht h0 hi hat
      rw [hA] at hi
      rw [hL] at hat ⊢
      rcases hn.kp t i h0 hi hat with h1 | ⟨s, h1, h2, h3⟩
      · exact .inl (by rw [hCv]; exact h1)
      · exact .inr ⟨s, h1, by omega, (lk _ _ _).1 h3⟩
    · have hwu : w ≠ v ∨ u ≠ T := by
        by_cases hw : w = v
        · exact .inr fun hu => hwu ⟨hw, hu⟩
        · exact .inl hw
      rw [hVo w u hwu] at hx
      exact gr.vote hg hx (fun e => h.hV (Int.le_of_lt hTa) x u (e ▸ hx)) (h.op w x u hx hu)
  · refine ⟨by rw [hF, ← hT]; exact gr.grown hg (hn.lm.top (Int.le_of_lt hTa)), by rw [hF]; exact hn.up, by rw [hv, ← hT]; exact hV, fun t h1 => ?_, fun t h1 => by rw [hA]; exact hn.an t (by omega), fun w t hw => ?_, fun t h1 => by rw [hld] at h1; have := hn.ld t h1; omega, fun _ => ?_, fun h1 => by omega, fun t i h0 hi hat => ?_, by rw [hF, hc]; exact hn.cl, ?_⟩
    · rw [hVo v t (.inr (by omega))]; exact hn.vn t (by omega)
    · by_cases hwt : w = v ∧ t = T
      · rw [hwt.2, hT]; exact Int.le_refl _
      · have hwt : w ≠ v ∨ t ≠ T := by
          by_cases hw : w = v
          · exact .inr fun ht => hwt ⟨hw, ht⟩
          · exact .inl hw
        rw [hVo w t hwt] at hw
        have := hn.me w t hw
        omega
    · rw [← hT, hF, hld]
      refine ⟨hCv, fun w hw hwb => by rw [hb w hw hwb]; exact hV, fun x hx => ?_, hnl, by omega⟩
      obtain ⟨i, hi, hxi⟩ := List.mem_iff_getElem.1 hx
      have := (hn.lm i x (by rw [List.getElem?_eq_getElem hi, hxi])).1
      omega
    · rw [hA] at hi
      rw [hL] at hat ⊢
      rw [hF]
      rcases hn.kp t i h0 hi hat with h1 | ⟨u, h1, h2, h3⟩
      · exact .inl h1
      · exact .inr ⟨u, h1, by omega, (lk _ _ _).1 h3⟩
    · rw [hF, hc, ← hT]
      exact gr.preOf hg (hn.cp.up (Int.le_of_lt hTa))
  · rw [← hT, hV] at hx
    cases hx
    exact absurd rfl hw
/-- A leader's log, longer by entries of its term: at its election, or later. -/
theorem lead_grow {T : Int} {F xs : List α} (hg : GOK tm sz g) (gr : Grow tm v T g g') (hlT : (g'.ld T).isSome = true) (hL : g'.L T = F ++ xs) (hF : Grown tm g F T) (hU : Up tm F) (hxs : ∀ x ∈ xs, tm x = T) : Grown tm g' (g'.L T) T ∧ Up tm (g'.L T) := by
  have hFl := gr.grown hg hF
  have hxx : ∀ i x, F.length ≤ i → (F ++ xs)[i]? = some x → tm x = T := fun i x hi hx => by
    rw [List.getElem?_append_right hi] at hx
    exact hxs x (List.mem_of_getElem? hx)
  rw [hL]
  refine ⟨fun i x hx => ?_, fun i j x y hij hx hy => ?_⟩
  · by_cases hi : i < F.length
    · have hx' := hx
      rw [List.getElem?_append_left hi] at hx'
      obtain ⟨h1, h2, h3⟩ := hFl i x hx'
      exact ⟨h1, h2, by rw [List.take_append_of_le_length (by omega)]; exact h3⟩
    · have := hxx i x (by omega) hx
      rw [this]
      exact ⟨Int.le_refl _, hlT, by rw [hL]; exact List.take_prefix _ _⟩
  · by_cases hj : j < F.length
    · rw [List.getElem?_append_left (by omega)] at hx
      rw [List.getElem?_append_left hj] at hy
      exact hU i j x y hij hx hy
    · have h1 := hxx j y (by omega) hy
      by_cases hi : i < F.length
      · rw [List.getElem?_append_left hi] at hx
        have := (hFl i x hx).1
        omega
      · have := hxx i x (by omega) hx
        omega
/-- A leader goes on: it was elected just now, or was before; its log is longer by entries of its term. -/
theorem Sure.lead (h : Sure tm sz g v a) {a' : AN α} {xs : List α} (hF : a'.F = a.F ++ xs) (ht : a'.term = a.term) (hv : a'.vote = a.vote) (hr : a'.role = 2) (hc : a'.com = a.com) (hxs : ∀ x ∈ xs, tm x = a.term) (hpos : 0 < a.term)
    (hm : ∀ k, k < sz → a'.mat k ≤ (if k = v then (a.F ++ xs).length else if a.role = 2 then a.mat k else 0))
    (hwas : a.role = 2 ∨ (a.role = 1 ∧ Most sz fun w => a.bits w)) :
    ∃ g' : Gh α, Moved tm sz g g' v a a' (fun _ => False) ∧ g'.L a.term = a.F ++ xs ∧ g'.A v a.term = (a.F ++ xs).length := by
  have hn := h.nk
  have hg := h.ok
  obtain ⟨T, hT⟩ : ∃ T, T = a.term := ⟨_, rfl⟩
  -- who leads in this term, if anybody
  have hfree : g.ld T = some v ∨ g.ld T = none := by
    rcases hwas with h1 | ⟨h1, h2⟩
    · exact .inl (by rw [hT]; exact (hn.le h1).1)
    · cases hl : g.ld T with
      | none => exact .inr rfl
      | some c =>
        exfalso
        obtain ⟨q, hq, hqv⟩ := hg.el T c hl
        obtain ⟨_, h3, _, h5, _⟩ := hn.ca h1
        obtain ⟨w, hw, hw1, hw2⟩ := Most.meet h2 hq
        have e1 := h3 w hw hw1
        have e2 := (hqv w hw hw2).1
        rw [← hT, e2] at e1
        cases e1
        exact h5 (hT ▸ hl)
  have hLF : g.ld T = some v → g.L T = a.F := fun hl => by
    rcases hwas with h1 | ⟨h1, _⟩
    · rw [hT]; exact (hn.le h1).2.1.symm
    · obtain ⟨_, _, _, h5, _⟩ := hn.ca h1
      exact absurd (hT ▸ hl) h5
  obtain ⟨g', hg'⟩ : ∃ g' : Gh α, g' = { g with L := fun t => if t = T then a.F ++ xs else g.L t, ld := fun t => if t = T then some v else g.ld t, A := fun w t => if w = v ∧ t = T then (a.F ++ xs).length else g.A w t } := ⟨_, rfl⟩
  have hL : g'.L T = a.F ++ xs := by rw [hg']; exact if_pos rfl
  have hLo : ∀ t, t ≠ T → g'.L t = g.L t := fun t ht => by rw [hg']; exact if_neg ht
  have hld : g'.ld T = some v := by rw [hg']; exact if_pos rfl
  have hldo : ∀ t, t ≠ T → g'.ld t = g.ld t := fun t ht => by rw [hg']; exact if_neg ht
  have hAv : g'.A v T = (a.F ++ xs).length := by rw [hg']; exact if_pos ⟨rfl, rfl⟩
  have hAo : ∀ w t, (w ≠ v ∨ t ≠ T) → g'.A w t = g.A w t := fun w t hwt => by
    rw [hg']
    refine if_neg fun hc => ?_
    rcases hwt with h1 | h1
    · exact h1 hc.1
    · exact h1 hc.2
  have hV : g'.V = g.V := by rw [hg']
  have hC : g'.C = g.C := by rw [hg']
  have hAk : g.A v T ≤ g'.A v T := by
    rw [hAv]
    have h1 := hg.al v T
    rcases hfree with h2 | h2
    · rw [hLF h2] at h1
      rw [List.length_append]; omega
    · rw [hg.nl T h2, List.length_nil] at h1
      omega
  have gr : Grow tm v T g g' := by
    refine ⟨hLo, ?_, fun t c hc => ?_, hldo, fun w t _ => by rw [hC], .inl (by rw [hC]), fun w t _ => by rw [hV], fun c hc => by rw [hV]; exact hc, hAo, hAk⟩
    · rcases hfree with h2 | h2
      · exact .inl ⟨xs, by rw [hL, hLF h2], by rw [hT]; exact hxs⟩
      · exact .inr h2
    · by_cases ht : t = T
      · subst ht
        rcases hfree with h2 | h2
        · rw [h2] at hc; rw [hld]; exact hc
        · rw [h2] at hc; cases hc
      · rw [hldo t ht]; exact hc
  have hgrown : Grown tm g a.F T := hT ▸ hn.lm
  obtain ⟨hlm, hup⟩ := lead_grow (sz := sz) hg gr (by rw [hld]; rfl) hL hgrown hn.up (by rw [hT]; exact hxs)
  have hVT := h.hV (T := T) (by omega)
  have ok : GOK tm sz g' := by
    refine gr.ok hg hVT hlm hup (fun c hc => ?_) (fun c hc => ?_) (by rw [hAv, hL]; exact Nat.le_refl _) (fun hc => by rw [hld] at hc; cases hc)
    · rw [hld] at hc
      cases hc
      rcases hwas with h1 | ⟨h1, h2⟩
      · exact .inl (by rw [hT]; exact (hn.le h1).1)
      · rcases hfree with h4 | h4
        · exact .inl h4
        · obtain ⟨_, h3, _, h5, _⟩ := hn.ca h1
          refine .inr ⟨_, h2, fun w hw hwb => ?_⟩
          have hwv := h3 w hw hwb
          rw [← hT] at hwv
          exact ⟨by rw [hV]; exact hwv, gr.vote hg hwv (fun e => hVT _ _ (e ▸ hwv)) (h.op w v T hwv h4)⟩
    · rw [hld] at hc
      cases hc
      rw [hC, hL]
      rcases hwas with h1 | ⟨h1, _⟩
      · have := hg.cl T v (by rw [hT]; exact (hn.le h1).1)
        rw [hLF (by rw [hT]; exact (hn.le h1).1)] at this
        exact this.trans (List.prefix_append _ _)
      · rw [hT, (hn.ca h1).1]
        exact List.prefix_append _ _
  have hT' : a'.term = T := by rw [ht, hT]
  have htake : (a.F ++ xs).take a.com = a.F.take a.com := List.take_append_of_le_length hn.cl
  refine ⟨g', ⟨hT' ▸ gr, ⟨ok, fun w x u hx hu => ?_, fun t h1 => ?_, ?_, by have := h.t0; omega⟩, by omega, fun t w hw => ?_, fun w hw hl => ?_, fun w _ hx => .inl (by rw [hV] at hx; exact hx)⟩, hT ▸ hL, hT ▸ hAv⟩
  · rw [hV] at hx
    have hu' : g.ld u = none := by
      by_cases huT : u = T
      · rw [huT, hld] at hu; cases hu
      · rw [hldo u huT] at hu; exact hu
    exact gr.vote hg hx (fun e => hVT x u (e ▸ hx)) (h.op w x u hx hu')
  · rw [hldo t (by omega)]; exact h.ps t h1
  · refine ⟨?_, by rw [hF, ← hL]; exact hup, by rw [hV, hv, ht]; exact hn.vt, fun t h1 => by rw [hV]; exact hn.vn t (by omega), fun t h1 => by rw [hAo v t (.inr (by omega))]; exact hn.an t (by omega), fun w t h1 => by rw [hV] at h1; have := hn.me w t h1; omega, fun t h1 => ?_, fun h1 => by omega, fun _ => ?_, fun t i h0 hi hat => ?_, by rw [hF, hc, List.length_append]; have := hn.cl; omega, ?_⟩
    · rw [hF, hT', ← hL]; exact hlm
    · by_cases htT : t = T
      · omega
      · rw [hldo t htT] at h1
        have := hn.ld t h1
        omega
    · rw [hT', hld, hF, hL]
      refine ⟨rfl, rfl, fun k hk => ?_⟩
      have h1 := hm k hk
      by_cases hkv : k = v
      · subst hkv
        rw [if_pos rfl] at h1
        rw [hAv]; exact h1
      · rw [if_neg hkv] at h1
        rw [hAo k T (.inl hkv)]
        split at h1
        · rename_i h2
          have := (hn.le h2).2.2 k hk
          rw [← hT] at this
          omega
        · omega
    · rw [hF, hT']
      by_cases htT : t = T
      · subst htT
        rw [hL]
        exact .inl (List.take_prefix _ _)
      · rw [hAo v t (.inr htT)] at hi
        rw [hLo t htT] at hat ⊢
        rcases hn.kp t i h0 hi hat with h1 | ⟨u, h1, h2, h3⟩
        · exact .inl (h1.trans (List.prefix_append _ _))
        · refine .inr ⟨u, h1, by omega, ?_⟩
          exact gr.lack hg h1 (Nat.le_trans hi (hg.al v t)) h3
    · rw [hF, hc, htake, hT', hT]
      exact gr.preOf hg hn.cp
  · by_cases htT : t = T
    · subst htT
      rw [hld] at hw
      cases hw
      exact .inr rfl
    · rw [hldo t htT] at hw; exact .inl hw
  · rw [hT'] at hl ⊢
    rcases hfree with h1 | h1
    · rw [h1] at hl; cases hl; exact absurd rfl hw
    · rw [h1] at hl; cases hl
end Go.Proofs.Ytjpjiniclibgkaa.Sx.Safe

namespace Go.Proofs.Ytjpjiniclibgkaa.Sx.Safe

variable {α : Type} {tm : α → Int} {sz v : Nat} {g g' : Gh α} {a : AN α}
/-- What a majority said to have, of the leader's own term, is committed, with all ahead of it. -/
theorem Sure.commit (h : Sure tm sz g v a) (hr : a.role = 2) {i : Nat} (hi : 0 < i) (hat : At tm a.F i a.term) (hm : Most sz fun k => decide (i ≤ a.mat k)) : Pre tm sz g (a.F.take i) a.term := by
  obtain ⟨h1, h2, h3⟩ := h.nk.le hr
  refine .inr ⟨a.term, i, ⟨hi, by rw [← h2]; exact hat, hm.mono fun k hk hx => decide_eq_true (Nat.le_trans (of_decide_eq_true hx) (h3 k hk))⟩, by rw [List.length_take]; omega, by rw [h2]; exact List.take_prefix _ _, Int.le_refl _⟩
/-- A follower takes what its leader sends, and says how far it has the leader's log. -/
theorem Sure.lay (h : Sure tm sz g v a) {a' : AN α} {n : Nat} (hl : (g.ld a.term).isSome = true) (ht : a'.term = a.term) (hv : a'.vote = a.vote) (hr : a'.role = 0)
    (hF : a'.F = a.F ∨ (a'.F <+: g.L a.term ∧ ∀ p, p <+: a.F → p <+: g.L a.term → p <+: a'.F)) (hn : (g.L a.term).take n <+: a'.F) (hnl : n ≤ (g.L a.term).length)
    (hc : a'.com = a.com ∨ (a'.com ≤ n ∧ Pre tm sz g ((g.L a.term).take a'.com) a.term)) :
    ∃ g' : Gh α, Moved tm sz g g' v a a' (fun _ => False) ∧ n ≤ g'.A v a.term ∧ g'.L = g.L := by
  have hk := h.nk
  have hg := h.ok
  obtain ⟨T, hT⟩ : ∃ T, T = a.term := ⟨_, rfl⟩
  rw [← hT] at hl hF hn hnl hc
  obtain ⟨g', hg'⟩ : ∃ g' : Gh α, g' = { g with A := fun w t => if w = v ∧ t = T then max (g.A v T) n else g.A w t } := ⟨_, rfl⟩
  have hAv : g'.A v T = max (g.A v T) n := by rw [hg']; exact if_pos ⟨rfl, rfl⟩
  have hAo : ∀ w t, (w ≠ v ∨ t ≠ T) → g'.A w t = g.A w t := fun w t hwt => by
    rw [hg']
    refine if_neg fun hc => ?_
    rcases hwt with h1 | h1
    · exact h1 hc.1
    · exact h1 hc.2
  have hL : g'.L = g.L := by rw [hg']
  have hld : g'.ld = g.ld := by rw [hg']
  have hV : g'.V = g.V := by rw [hg']
  have hC : g'.C = g.C := by rw [hg']
  have hT' : a'.term = T := by rw [ht, hT]
  have gr : Grow tm v T g g' :=
    ⟨fun t _ => by rw [hL], .inl ⟨[], by rw [hL, List.append_nil], fun _ h => by cases h⟩, fun t x hx => by rw [hld]; exact hx, fun t _ => by rw [hld], fun w t _ => by rw [hC], .inl (by rw [hC]), fun w t _ => by rw [hV], fun c hc => by rw [hV]; exact hc, hAo, by rw [hAv]; exact Nat.le_max_left _ _⟩
  have hVT := h.hV (T := T) (by omega)
  have ok : GOK tm sz g' := gr.ok hg hVT (by rw [hL]; exact gr.grown hg (hg.lm _)) (by rw [hL]; exact hg.up _) (fun x hx => .inl (by rw [hld] at hx; exact hx)) (fun x hx => by rw [hL, hC]; rw [hld] at hx; exact hg.cl _ x hx) (by rw [hL, hAv]; have := hg.al v T; omega) (fun hx => by rw [hL]; rw [hld] at hx; exact hg.nl _ hx)
  have lk : ∀ t i u, Lack g t i u ↔ Lack g' t i u := fun t i u => by unfold Lack; rw [hL, hld]
  -- what both logs begin with is kept
  have both : ∀ p, p <+: a.F → p <+: g.L T → p <+: a'.F := fun p h1 h2 => by
    rcases hF with hF | hF
    · rw [hF]; exact h1
    · exact hF.2 p h1 h2
  have hcomL : a.F.take a.com <+: g.L T := Pre.leader hg hk.cp (by omega) hl
  have hcomF : a.F.take a.com <+: a'.F := both _ (List.take_prefix _ _) hcomL
  have hclen : (a.F.take a.com).length = a.com := by rw [List.length_take]; have := hk.cl; omega
  have hnlen : ((g.L T).take n).length = n := by rw [List.length_take]; omega
  refine ⟨g', ⟨hT' ▸ gr, ⟨ok, fun w x u hx hu => ?_, fun t h1 => by rw [hld]; exact h.ps t h1, ?_, by have := h.t0; omega⟩, by omega, fun t w hw => .inl (by rw [hld] at hw; exact hw), fun w _ _ => by rw [hL], fun w _ hx => .inl (by rw [hV] at hx; exact hx)⟩, by rw [← hT, hAv]; exact Nat.le_max_right _ _, hL⟩
  · rw [hV] at hx
    rw [hld] at hu
    exact gr.vote hg hx (fun e => hVT x u (e ▸ hx)) (h.op w x u hx hu)
  · refine ⟨?_, ?_, by rw [hV, hv, ht]; exact hk.vt, fun t h1 => by rw [hV]; exact hk.vn t (by omega), fun t h1 => by rw [hAo v t (.inr (by omega))]; exact hk.an t (by omega), fun w t h1 => by rw [hV] at h1; have := hk.me w t h1; omega, fun t h1 => by rw [hld] at h1; have := hk.ld t h1; omega, fun h1 => by omega, fun h1 => by omega, fun t i h0 hi hat => ?_, ?_, ?_⟩
    · rw [hT']
      rcases hF with hF | hF
      · rw [hF]; exact gr.grown hg (hT ▸ hk.lm)
      · exact gr.grown hg ((hg.lm T).less hF.1)
    · rcases hF with hF | hF
      · rw [hF]; exact hk.up
      · exact (hg.up T).less hF.1
    · rw [hL] at hat ⊢
      rw [hT']
      by_cases htT : t = T
      · subst htT
        rw [hAv] at hi
        by_cases hin : i ≤ n
        · exact .inl ((take_pre _ hin).trans hn)
        · rcases hk.kp t i h0 (by omega) hat with h1 | ⟨u, h1, h2, h3⟩
          · exact .inl (both _ h1 (List.take_prefix _ _))
          · exact .inr ⟨u, h1, by omega, (lk _ _ _).1 h3⟩
      · rw [hAo v t (.inr htT)] at hi
        have htlt : t < T := by
          refine Classical.byContradiction fun hc => ?_
          have := hk.an t (by omega)
          omega
        rcases hk.kp t i h0 hi hat with h1 | ⟨u, h1, h2, h3⟩
        · by_cases hp : (g.L t).take i <+: g.L T
          · exact .inl (both _ h1 hp)
          · exact .inr ⟨T, htlt, Int.le_refl _, (lk _ _ _).1 ⟨hl, hp⟩⟩
        · exact .inr ⟨u, h1, by omega, (lk _ _ _).1 h3⟩
    · rcases hc with hc | ⟨hc, _⟩
      · have := hcomF.length_le
        rw [hc]; omega
      · have := hn.length_le
        omega
    · rw [hT']
      refine gr.preOf hg ?_
      rcases hc with hc | ⟨hc, hp⟩
      · have e : a'.F.take a'.com = a.F.take a.com := by
          have := pre_eq hcomF (i := a.com) (by omega)
          rw [hc, ← this, List.take_take, Nat.min_self]
        rw [e]
        exact hk.cp.up (by omega)
      · have h1 : (g.L T).take a'.com <+: a'.F := (take_pre _ hc).trans hn
        have hlen : ((g.L T).take a'.com).length = a'.com := by rw [List.length_take]; omega
        have := pre_eq h1 (i := a'.com) (by omega)
        rw [List.take_take, Nat.min_self] at this
        rw [← this, hT]
        exact hT ▸ hp
/-- The world: all nodes at once. -/
structure World (tm : α → Int) (sz : Nat) (g : Gh α) (as : Nat → AN α) : Prop where
  ok : GOK tm sz g
  op : Open tm g
  ps : ∀ t, t ≤ 0 → g.ld t = none
  nk : ∀ v, v < sz → NOK tm sz g v (as v) ∧ 0 ≤ (as v).term
theorem World.sure {as : Nat → AN α} (h : World tm sz g as) (hv : v < sz) : Sure tm sz g v (as v) := ⟨h.ok, h.op, h.ps, (h.nk v hv).1, (h.nk v hv).2⟩
theorem World.move {as : Nat → AN α} (h : World tm sz g as) (hv : v < sz) {a' : AN α} {asked : Nat → Prop} (hm : Moved tm sz g g' v (as v) a' asked) (hask : ∀ w, w < sz → w ≠ v → asked w → a'.term ≤ (as w).term) :
    World tm sz g' (fun w => if w = v then a' else as w) := by
  refine ⟨hm.su.ok, hm.su.op, hm.su.ps, fun w hw => ?_⟩
  by_cases hwv : w = v
  · subst hwv
    simp only [if_true]
    exact ⟨hm.su.nk, hm.su.t0⟩
  · simp only [if_neg hwv]
    refine ⟨NOK.other hm.gr h.ok hwv (h.nk w hw).1 (fun hx => ?_) (fun t ht => ?_) fun hl => hm.lo w hwv hl, (h.nk w hw).2⟩
    · rcases hm.vo w hwv hx with h1 | h1
      · exact .inl h1
      · exact .inr (hask w hw hwv h1)
    · rcases hm.ld t w ht with h1 | h1
      · exact h1
      · exact absurd h1 hwv
end Go.Proofs.Ytjpjiniclibgkaa.Sx.Safe
