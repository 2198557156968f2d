/- Nodes and messages, and what is thought of them. Then: What a node says, as it is thought of. A node's turns, as they are thought of: a leader's entries and commit, an election. A message is heard, as it is thought of: asked for a vote, a vote, how far a node is. A leader's entries are laid, as it is thought of. A leader is heard, as it is thought of: entries, a snapshot. All that befalls a node, as it is thought of. The world of nodes: what is true of it from move to move; what was seen committed; who led. -/
import Derived.Test.YtjpjiniclibgkaaSafeI
import Derived.Test.YtjpjiniclibgkaaSafeF
namespace Go.Proofs.Ytjpjiniclibgkaa.Sx
open Go Safe

abbrev tmI (x : Item) : Int := x.term
/-- A node's log is the end of its whole log. -/
structure Link (n : Node) (F : List Item) : Prop where
  len : (F.length : Int) = n.log.base + n.log.items.length
  it : F.drop n.log.base.toNat = n.log.items
  bt : n.log.baseTerm = endTm tmI (F.take n.log.base.toNat)
def bitN (v : Int) (k : Nat) : Bool := v.toNat.testBit k
def absN (n : Node) (F : List Item) : AN Item := ⟨F, n.log.term, if n.log.vote = -1 then none else some n.log.vote.toNat, n.role.toNat, n.commit.toNat, bitN n.votes, fun k => (n.mat k).toNat⟩
section link
variable {n : Node} {F : List Item}
theorem Link.last (h : Link n F) : lastI n = (F.length : Int) := by rw [lastI_eq, h.len]
theorem endTm_take {l : List Item} {i : Nat} {x : Item} (hi : 0 < i) (hx : l[i - 1]? = some x) : endTm tmI (l.take i) = x.term := by
  have hl := (List.getElem?_eq_some_iff.1 hx).1
  have hlen : (l.take i).length = i := by rw [List.length_take]; omega
  exact endTm_at (tm := tmI) (x := x) (by rw [hlen, List.getElem?_take, if_pos (by omega)]; exact hx)
theorem Link.item (h : Link n F) {i : Nat} (hb : n.log.base.toNat ≤ i) : n.log.items[i - n.log.base.toNat]? = F[i]? := by
  rw [← h.it, List.getElem?_drop]
  congr 1
  omega
/-- An entry's term, as far as the log tells it. -/
theorem Link.term (h : Link n F) (hb : 0 ≤ n.log.base) {i : Int} (h1 : n.log.base ≤ i) (h2 : i ≤ lastI n) : termAtN n.log i = (endTm tmI (F.take i.toNat), true) := by
  have hl := h.len
  rw [lastI_eq] at h2
  by_cases he : i = n.log.base
  · rw [termAtN_base he, he, h.bt]
  · have hx : F[i.toNat - 1]? = some (F[i.toNat - 1]'(by omega)) := List.getElem?_eq_getElem _
    generalize F[i.toNat - 1]'(by omega) = x at hx
    have hix : n.log.items[(i - n.log.base - 1).toNat]? = some x := by
      have := h.item (i := i.toNat - 1) (by omega)
      rw [← hx, ← this]
      congr 1
      omega
    rw [termAtN_in he (by omega) (by omega) hix, endTm_take (by omega) hx]
theorem known_rng {i : Int} (hk : (termAtN n.log i).2 = true) : n.log.base ≤ i ∧ i ≤ lastI n := by
  rw [lastI_eq]
  rcases known_in hk with h1 | ⟨h1, h2⟩ <;> omega
theorem Link.lastN (h : Link n F) (hf : Fine n) : Sx.lastN n.log = ((F.length : Int), endTm tmI F) := by
  have h1 := last_fit hf.fit
  have h2 : (Sx.lastN n.log).2 = endTm tmI F := by
    have hb := hf.b1
    have hl := h.len
    cases hz : n.log.items.length with
    | zero =>
      rw [lastN_zero hz]
      show n.log.baseTerm = _
      rw [h.bt, List.take_of_length_le (by omega)]
    | succ k =>
      have hx : F[F.length - 1]? = some (F[F.length - 1]'(by omega)) := List.getElem?_eq_getElem _
      generalize F[F.length - 1]'(by omega) = x at hx
      have hix : n.log.items[n.log.items.length - 1]? = some x := by
        have := h.item (i := F.length - 1) (by omega)
        rw [← hx, ← this]
        congr 1
        omega
      rw [lastN_pos hix, endTm_at (tm := tmI) hx]
  have h3 : (Sx.lastN n.log).1 = (F.length : Int) := by rw [h1, h.len]
  exact Prod.ext h3 h2
end link
/-! ### messages -/
/-- What is known of a message under way. 'tms': the nodes' terms; 'S': how much was seen committed. -/
structure MOK (sz : Nat) (g : Gh Item) (tms : Nat → Int) (S : Nat) (m : Msg) : Prop where
  f1 : 0 ≤ m.frm
  f2 : m.frm.toNat < sz
  t1 : 0 ≤ m.to
  t2 : m.to.toNat < sz
  tl : m.term ≤ tms m.frm.toNat
  ask : m.kind = 1 → g.V m.frm.toNat m.term = some m.frm.toNat ∧ m.last = (g.C m.frm.toNat m.term).length ∧ m.lastTerm = endTm tmI (g.C m.frm.toNat m.term) ∧ Grown tmI g (g.C m.frm.toNat m.term) m.term ∧ Up tmI (g.C m.frm.toNat m.term) ∧ ∀ x ∈ g.C m.frm.toNat m.term, tmI x < m.term
  vote : m.kind = 2 → m.yes = true → g.V m.frm.toNat m.term = some m.to.toNat
  app : m.kind = 3 → (g.ld m.term).isSome = true ∧ m.last.toNat ≤ (g.L m.term).length ∧ m.lastTerm = endTm tmI ((g.L m.term).take m.last.toNat) ∧ m.items <+: (g.L m.term).drop m.last.toNat ∧ m.commit.toNat ≤ (g.L m.term).length ∧ Pre tmI sz g ((g.L m.term).take m.commit.toNat) m.term
  got : m.kind = 4 → m.yes = true → m.last.toNat ≤ g.A m.frm.toNat m.term
  ins : m.kind = 5 → (g.ld m.term).isSome = true ∧ m.last.toNat ≤ (g.L m.term).length ∧ m.lastTerm = endTm tmI ((g.L m.term).take m.last.toNat) ∧ Pre tmI sz g ((g.L m.term).take m.last.toNat) m.term ∧ m.last.toNat ≤ S
theorem pre_drop {α : Type} {l k : List α} (h : l <+: k) (i : Nat) : l.drop i <+: k.drop i := by
  obtain ⟨r, rfl⟩ := h
  by_cases hi : i ≤ l.length
  · rw [List.drop_append_of_le_length hi]; exact List.prefix_append _ _
  · rw [List.drop_eq_nil_of_le (by omega)]; exact List.nil_prefix
/-- A message stays what it is. -/
theorem MOK.grow {sz v : Nat} {T : Int} {g g' : Gh Item} (gr : Grow tmI v T g g') (hg : GOK tmI sz g) {tms tms' : Nat → Int} (ht : ∀ w, w < sz → tms w ≤ tms' w) {S S' : Nat} (hS : S ≤ S') {m : Msg} (h : MOK sz g tms S m) : MOK sz g' tms' S' m := by
  have tk : ∀ {t : Int} {i : Nat}, i ≤ (g.L t).length → (g'.L t).take i = (g.L t).take i := fun hi => gr.take hg hi
  have ln : ∀ t, (g.L t).length ≤ (g'.L t).length := fun t => (gr.pre hg t).length_le
  refine ⟨h.f1, h.f2, h.t1, h.t2, Int.le_trans h.tl (ht _ h.f2), fun hk => ?_, fun hk hy => gr.voted (h.vote hk hy), fun hk => ?_, fun hk hy => Nat.le_trans (h.got hk hy) (gr.acks _ _), fun hk => ?_⟩
  · obtain ⟨h1, h2, h3, h4, h5, h6⟩ := h.ask hk
    have hC : g'.C m.frm.toNat m.term = g.C m.frm.toNat m.term := by
      by_cases hw : m.frm.toNat = v
      · by_cases htT : m.term = T
        · rcases gr.Cn with hc | hc
          · rw [hw, htT]; exact hc
          · exact absurd (by rw [← hw, ← htT]; exact h1) (hc v)
        · exact gr.C _ _ (.inr htT)
      · exact gr.C _ _ (.inl hw)
    rw [hC]
    exact ⟨gr.voted h1, h2, h3, gr.grown hg h4, h5, h6⟩
  · obtain ⟨h1, h2, h3, h4, h5, h6⟩ := h.app hk
    exact ⟨gr.led h1, Nat.le_trans h2 (ln _), by rw [tk h2]; exact h3, h4.trans (pre_drop (gr.pre hg _) _), Nat.le_trans h5 (ln _), by rw [tk h5]; exact gr.preOf hg h6⟩
  · obtain ⟨h1, h2, h3, h4, h5⟩ := h.ins hk
    exact ⟨gr.led h1, Nat.le_trans h2 (ln _), by rw [tk h2]; exact h3, by rw [tk h2]; exact gr.preOf hg h4, Nat.le_trans h5 hS⟩
end Go.Proofs.Ytjpjiniclibgkaa.Sx

namespace Go.Proofs.Ytjpjiniclibgkaa.Sx
open Go Safe

/-- A node in its place. -/
structure Here (sz : Nat) (g : Gh Item) (v : Nat) (n : Node) (F : List Item) : Prop where
  fine : Fine n
  me : n.me = (v : Int)
  size : n.size = (sz : Int)
  link : Link n F
  su : Sure tmI sz g v (absN n F)
section say
variable {sz v : Nat} {g : Gh Item} {n : Node} {F : List Item} {tms : Nat → Int} {S : Nat}
theorem Here.vl (h : Here sz g v n F) : v < sz := by
  have := h.fine.m2; have := h.me; have := h.size; omega
theorem abs_role {r : Nat} (hr : n.role = (r : Int)) : (absN n F).role = r := by show n.role.toNat = r; omega
theorem Here.lead (h : Here sz g v n F) (hr : n.role = 2) : g.ld n.log.term = some v ∧ F = g.L n.log.term ∧ ∀ k, k < sz → (n.mat k).toNat ≤ g.A k n.log.term := h.su.nk.le (abs_role hr)
theorem Here.com (h : Here sz g v n F) : n.commit.toNat ≤ F.length ∧ Pre tmI sz g (F.take n.commit.toNat) n.log.term := ⟨h.su.nk.cl, h.su.nk.cp⟩
theorem Here.base (h : Here sz g v n F) : n.log.base.toNat ≤ F.length ∧ Pre tmI sz g (F.take n.log.base.toNat) n.log.term := by
  have h1 := h.com
  have := h.fine.c1
  have := h.fine.b1
  exact ⟨by omega, h1.2.less (take_pre _ (by omega))⟩
/-- A message of this node. -/
theorem Here.mok (h : Here sz g v n F) (ht : tms v = n.log.term) {to : Int} (h0 : 0 ≤ to) (h1 : to < n.size) {m : Msg}
    (ask : m.kind = 1 → g.V v n.log.term = some v ∧ m.last = (g.C v n.log.term).length ∧ m.lastTerm = endTm tmI (g.C v n.log.term) ∧ Grown tmI g (g.C v n.log.term) n.log.term ∧ Up tmI (g.C v n.log.term) ∧ ∀ x ∈ g.C v n.log.term, tmI x < n.log.term)
    (vote : m.kind = 2 → m.yes = true → g.V v n.log.term = some to.toNat)
    (app : m.kind = 3 → (g.ld n.log.term).isSome = true ∧ m.last.toNat ≤ (g.L n.log.term).length ∧ m.lastTerm = endTm tmI ((g.L n.log.term).take m.last.toNat) ∧ m.items <+: (g.L n.log.term).drop m.last.toNat ∧ m.commit.toNat ≤ (g.L n.log.term).length ∧ Pre tmI sz g ((g.L n.log.term).take m.commit.toNat) n.log.term)
    (got : m.kind = 4 → m.yes = true → m.last.toNat ≤ g.A v n.log.term)
    (ins : m.kind = 5 → (g.ld n.log.term).isSome = true ∧ m.last.toNat ≤ (g.L n.log.term).length ∧ m.lastTerm = endTm tmI ((g.L n.log.term).take m.last.toNat) ∧ Pre tmI sz g ((g.L n.log.term).take m.last.toNat) n.log.term ∧ m.last.toNat ≤ S) : MOK sz g tms S (sayN n to m) := by
  have hv := h.vl
  have hsz := h.size
  have hme : (sayN n to m).frm.toNat = v := by show n.me.toNat = v; rw [h.me]; exact Int.toNat_natCast v
  have htm : (sayN n to m).term = n.log.term := rfl
  refine ⟨by show 0 ≤ n.me; rw [h.me]; exact Int.natCast_nonneg v, by rw [hme]; exact hv, h0, by show to.toNat < sz; omega, by rw [hme, htm, ht]; exact Int.le_refl _, fun hk => ?_, fun hk hy => ?_, fun hk => ?_, fun hk hy => ?_, fun hk => ?_⟩
  · rw [hme, htm]; exact ask hk
  · rw [hme, htm]; exact vote hk hy
  · rw [htm]; exact app hk
  · rw [hme, htm]; exact got hk hy
  · rw [htm]; exact ins hk
/-- What a leader feeds. -/
theorem Here.feed (h : Here sz g v n F) (hr : n.role = 2) (ht : tms v = n.log.term) (hS : n.log.base.toNat ≤ S) {to : Int} (h0 : 0 ≤ to) (h1 : to < n.size) : MOK sz g tms S (feedN n to) := by
  obtain ⟨hl, hF, _⟩ := h.lead hr
  have hls : (g.ld n.log.term).isSome = true := by rw [hl]; rfl
  have hfine := h.fine
  have hb1 := hfine.b1
  have hlast := h.link.last
  have hbase := h.base
  have hcom := h.com
  have hrg := hfine.rg.nx to.toNat (by omega)
  unfold feedN
  by_cases hlow : n.next to.toNat - 1 < n.log.base
  · have hk : feedK n to = (mkM 5 n.log.base n.log.baseTerm 0 false [] n.log.book) := by unfold feedK; rw [if_pos hlow]
    rw [hk]
    refine h.mok ht h0 h1 (fun hk => absurd hk (by show ¬ (5 : Int) = 1; decide)) (fun hk => absurd hk (by show ¬ (5 : Int) = 2; decide)) (fun hk => absurd hk (by show ¬ (5 : Int) = 3; decide)) (fun hk => absurd hk (by show ¬ (5 : Int) = 4; decide)) fun _ => ?_
    show (g.ld n.log.term).isSome = true ∧ n.log.base.toNat ≤ (g.L n.log.term).length ∧ n.log.baseTerm = endTm tmI ((g.L n.log.term).take n.log.base.toNat) ∧ Pre tmI sz g ((g.L n.log.term).take n.log.base.toNat) n.log.term ∧ n.log.base.toNat ≤ S
    rw [← hF]
    exact ⟨hls, hbase.1, h.link.bt, hbase.2, hS⟩
  · obtain ⟨a, ha⟩ : ∃ a, a = n.next to.toNat - 1 := ⟨_, rfl⟩
    have hk : feedK n to = mkM 3 a (termAtN n.log a).1 n.commit false ((n.log.items.drop (a - n.log.base).toNat).take 16) ByteArray.empty := by unfold feedK; rw [if_neg hlow, ← ha]
    rw [hk]
    have hta := h.link.term hb1 (i := a) (by omega) (by omega)
    refine h.mok ht h0 h1 (fun hk => absurd hk (by show ¬ (3 : Int) = 1; decide)) (fun hk => absurd hk (by show ¬ (3 : Int) = 2; decide)) (fun _ => ?_) (fun hk => absurd hk (by show ¬ (3 : Int) = 4; decide)) fun hk => absurd hk (by show ¬ (3 : Int) = 5; decide)
    show (g.ld n.log.term).isSome = true ∧ a.toNat ≤ (g.L n.log.term).length ∧ (termAtN n.log a).1 = endTm tmI ((g.L n.log.term).take a.toNat) ∧ (n.log.items.drop (a - n.log.base).toNat).take 16 <+: (g.L n.log.term).drop a.toNat ∧ n.commit.toNat ≤ (g.L n.log.term).length ∧ Pre tmI sz g ((g.L n.log.term).take n.commit.toNat) n.log.term
    rw [← hF, hta, ← h.link.it, List.drop_drop]
    have e : n.log.base.toNat + (a - n.log.base).toNat = a.toNat := by omega
    rw [e]
    exact ⟨hls, by omega, rfl, List.take_prefix _ _, hcom.1, hcom.2⟩
theorem Here.feedAll (h : Here sz g v n F) (hr : n.role = 2) (ht : tms v = n.log.term) (hS : n.log.base.toNat ≤ S) : ∀ m ∈ feedAllK n, MOK sz g tms S m := by
  intro m hm
  obtain ⟨i, hi, rfl⟩ := List.mem_map.1 hm
  have hi2 := (others_mem hi).1
  have := h.fine.s1
  exact h.feed hr ht hS (Int.natCast_nonneg _) (by omega)
/-- An answer of how far this node is. -/
theorem Here.ans (h : Here sz g v n F) (ht : tms v = n.log.term) {to : Int} (h0 : 0 ≤ to) (h1 : to < n.size) {last : Int} {yes : Bool} (hy : yes = true → last.toNat ≤ g.A v n.log.term) : MOK sz g tms S (sayN n to (ansM last yes)) :=
  h.mok ht h0 h1 (fun hk => absurd hk (by show ¬ (4 : Int) = 1; decide)) (fun hk => absurd hk (by show ¬ (4 : Int) = 2; decide)) (fun hk => absurd hk (by show ¬ (4 : Int) = 3; decide)) (fun _ hyes => hy hyes) fun hk => absurd hk (by show ¬ (4 : Int) = 5; decide)
theorem Here.voted (h : Here sz g v n F) (ht : tms v = n.log.term) {to : Int} (h0 : 0 ≤ to) (h1 : to < n.size) {yes : Bool} (hy : yes = true → g.V v n.log.term = some to.toNat) : MOK sz g tms S (sayN n to (voteM yes)) :=
  h.mok ht h0 h1 (fun hk => absurd hk (by show ¬ (2 : Int) = 1; decide)) (fun _ hyes => hy hyes) (fun hk => absurd hk (by show ¬ (2 : Int) = 3; decide)) (fun hk => absurd hk (by show ¬ (2 : Int) = 4; decide)) fun hk => absurd hk (by show ¬ (2 : Int) = 5; decide)
end say
end Go.Proofs.Ytjpjiniclibgkaa.Sx

namespace Go.Proofs.Ytjpjiniclibgkaa.Sx
open Go Safe

namespace Safe
section moved
variable {α : Type} {tm : α → Int} {sz v : Nat} {g g1 g' : Gh α} {a a1 a' : AN α} {asked : Nat → Prop}
theorem Moved.then (h : Moved tm sz g g' v a a1 asked) (hn : NOK tm sz g' v a') (ht : a'.term = a1.term) : Moved tm sz g g' v a a' asked :=
  ⟨by rw [ht]; exact h.gr, ⟨h.su.ok, h.su.op, h.su.ps, hn, by rw [ht]; exact h.su.t0⟩, by rw [ht]; exact h.tl, h.ld, by rw [ht]; exact h.lo, by rw [ht]; exact h.vo⟩
theorem Moved.first {b : Nat → Prop} (h : Moved tm sz g g v a a1 b) (h' : Moved tm sz g g' v a1 a' asked) : Moved tm sz g g' v a a' asked :=
  ⟨h'.gr, h'.su, Int.le_trans h.tl h'.tl, h'.ld, h'.lo, h'.vo⟩
theorem Grow.trans {T : Int} (h : Grow tm v T g g1) (h' : Grow tm v T g1 g') : Grow tm v T g g' := by
  have hnone : g1.ld T = none → g.ld T = none := fun hn => by
    cases hc : g.ld T with
    | none => rfl
    | some c => rw [h.ldk T c hc] at hn; cases hn
  refine ⟨fun t ht => (h'.L t ht).trans (h.L t ht), ?_, fun t c hc => h'.ldk t c (h.ldk t c hc), fun t ht => (h'.ldo t ht).trans (h.ldo t ht), fun w t hw => (h'.C w t hw).trans (h.C w t hw), ?_, fun w t hw => (h'.V w t hw).trans (h.V w t hw), fun c hc => h'.Vk c (h.Vk c hc), fun w t hw => (h'.A w t hw).trans (h.A w t hw), Nat.le_trans h.Ak h'.Ak⟩
  · rcases h.LT with ⟨xs, h1, h2⟩ | h1
    · rcases h'.LT with ⟨ys, h3, h4⟩ | h3
      · exact .inl ⟨xs ++ ys, by rw [h3, h1, List.append_assoc], fun x hx => (List.mem_append.1 hx).elim (h2 x) (h4 x)⟩
      · exact .inr (hnone h3)
    · exact .inr h1
  · rcases h.Cn with h1 | h1
    · rcases h'.Cn with h2 | h2
      · exact .inl (h2.trans h1)
      · exact .inr fun w hw => h2 w (h.voted hw)
    · exact .inr h1
theorem Moved.trans {b : Nat → Prop} (h : Moved tm sz g g1 v a a1 b) (h' : Moved tm sz g1 g' v a1 a' asked) (ht : a'.term = a1.term) : Moved tm sz g g' v a a' (fun w => b w ∨ asked w) := by
  refine ⟨?_, h'.su, Int.le_trans h.tl h'.tl, fun t w hw => ?_, fun w hw hl => ?_, fun w hw hx => ?_⟩
  · rw [ht]
    exact h.gr.trans (ht ▸ h'.gr)
  · rcases h'.ld t w hw with h1 | h1
    · exact h.ld t w h1
    · exact .inr h1
  · rw [ht] at hl ⊢
    have h1 := h.lo w hw hl
    have h2 := h'.lo w hw (by rw [ht]; exact h.gr.ldk _ _ hl)
    rw [ht] at h2
    exact h2.trans h1
  · rcases h'.vo w hw hx with h1 | h1
    · rw [ht] at h1 ⊢
      rcases h.vo w hw h1 with h2 | h2
      · exact .inl h2
      · exact .inr (.inl h2)
    · exact .inr (.inr h1)
end moved
end Safe
section turn
variable {sz v : Nat} {g g' : Gh Item} {n n' : Node} {F F' : List Item} {tms : Nat → Int} {S : Nat}
/-- Logs are longer by one entry at most. -/
def Longer (g g' : Gh Item) (F F' : List Item) : Prop := ∀ K, (∀ t, (g.L t).length ≤ K) → F.length ≤ K → (∀ t, (g'.L t).length ≤ K + 1) ∧ F'.length ≤ K + 1
theorem Longer.same {g g' : Gh Item} {F F' : List Item} (hL : g'.L = g.L) (hF : F'.length ≤ F.length ∨ ∃ t, F'.length ≤ (g.L t).length) : Longer g g' F F' := fun K h1 h2 => by
  refine ⟨fun t => by rw [hL]; have := h1 t; omega, ?_⟩
  rcases hF with h | ⟨t, h⟩
  · omega
  · have := h1 t; omega
theorem Longer.lead {g g' : Gh Item} {F F' xs : List Item} {T : Int} (hL : g'.L T = F') (hLo : ∀ t, t ≠ T → g'.L t = g.L t) (hF : F' = F ++ xs) (hx : xs.length ≤ 1) : Longer g g' F F' := fun K h1 h2 => by
  have hl : F'.length ≤ K + 1 := by rw [hF, List.length_append]; omega
  refine ⟨fun t => ?_, hl⟩
  by_cases ht : t = T
  · rw [ht, hL]; exact hl
  · rw [hLo t ht]; have := h1 t; omega
/-- A node's turn: what it is behind it, and what it says. -/
def Went (sz : Nat) (g : Gh Item) (v : Nat) (n : Node) (F : List Item) (tms : Nat → Int) (S : Nat) (n' : Node) (ks : List Msg) : Prop :=
  ∃ (g' : Gh Item) (F' : List Item) (asked : Nat → Prop), Moved tmI sz g g' v (absN n F) (absN n' F') asked ∧ (∀ w, w < sz → w ≠ v → asked w → n'.log.term ≤ tms w) ∧ Here sz g' v n' F' ∧ (∀ m ∈ ks, MOK sz g' (fun w => if w = v then n'.log.term else tms w) S m) ∧ n'.log.base.toNat ≤ S ∧ Longer g g' F F'
theorem Here.next (h : Here sz g v n F) {asked : Nat → Prop} (hm : Moved tmI sz g g' v (absN n F) (absN n' F') asked) (hf : Fine n') (hme : n'.me = n.me) (hsz : n'.size = n.size) (hl : Link n' F') : Here sz g' v n' F' :=
  ⟨hf, hme.trans h.me, hsz.trans h.size, hl, hm.su⟩
/-- The commit that a majority allows. -/
theorem commitGo_at {n : Node} : ∀ k : Nat, commitGo n k = n.commit ∨ ∃ i, commitGo n k = i ∧ n.commit < i ∧ i ≤ n.commit + k ∧ (termAtN n.log i).1 = n.log.term ∧ 2 * (haveN n i n.size.toNat : Int) > n.size
  | 0 => .inl rfl
  | k + 1 => by
    rw [commitGo]
    split
    · exact .inl rfl
    · rename_i h1
      split
      · rename_i h2
        exact .inr ⟨_, rfl, by omega, Int.le_refl _, Decidable.byContradiction h1, h2⟩
      · rcases commitGo_at (n := n) k with h | ⟨i, h3, h4, h5, h6⟩
        · exact .inl h
        · exact .inr ⟨i, h3, h4, by omega, h6⟩
theorem Here.commitN (h : Here sz g v n F) (hr : n.role = 2) : NOK tmI sz g v (absN { n with commit := Sx.commitN n } F) := by
  have hf := h.fine
  have hc1 := hf.c1; have hb1 := hf.b1; have hc2 := hf.c2
  have hlast := h.link.last
  have hle := commitN_le hf.fit hf.c2
  have hr2 : (absN n F).role = 2 := abs_role hr
  refine (Sure.on h.su (a' := absN { n with commit := Sx.commitN n } F) rfl rfl rfl rfl (fun _ _ hb => .inl hb) (fun hr k hk => (h.su.nk.le hr).2.2 k hk) ?_ ?_ (asked := fun _ => False)).su.nk
  · show (Sx.commitN n).toNat ≤ F.length
    omega
  · show Pre tmI sz g (F.take (Sx.commitN n).toNat) n.log.term
    have hgo : Sx.commitN n = commitGo n ((lastN n.log).1 - n.commit).toNat := rfl
    rcases commitGo_at (n := n) ((lastN n.log).1 - n.commit).toNat with hc | ⟨i, h3, h4, h5, h6, h7⟩
    · rw [hgo, hc]; exact h.com.2
    · rw [hgo, h3]
      have hil : i ≤ lastI n := by rw [← h3, ← hgo]; exact hle.2
      have hta := h.link.term hb1 (i := i) (by omega) hil
      rw [hta] at h6
      have hlt : i.toNat - 1 < F.length := by omega
      have hx := List.getElem?_eq_getElem hlt
      obtain ⟨x, hxd⟩ : ∃ x, x = F[i.toNat - 1] := ⟨_, rfl⟩
      rw [← hxd] at hx
      have h6 : endTm tmI (F.take i.toNat) = n.log.term := h6
      rw [endTm_take (by omega) hx] at h6
      refine h.su.commit hr2 (i := i.toNat) (by omega) ⟨x, hx, h6⟩ ?_
      have hsz := h.size
      have e : n.size.toNat = sz := by omega
      rw [e] at h7
      have hcnt : haveN n i sz = cnt sz fun k => decide (n.mat k ≥ i) := rfl
      have hm : Most sz fun k => decide (n.mat k ≥ i) := by unfold Most; rw [← hcnt]; omega
      refine hm.mono fun k _ hk => ?_
      have hk : n.mat k ≥ i := of_decide_eq_true hk
      exact decide_eq_true (by show i.toNat ≤ (n.mat k).toNat; omega)
theorem link_put (h : Link n F) (hf : Fine n) {e : Entry} : Link (layN n e) (F ++ [⟨n.log.term, e⟩]) := by
  have hb := hf.b1
  have hl := h.len
  refine ⟨?_, ?_, ?_⟩
  · show ((F ++ [_]).length : Int) = n.log.base + ((n.log.items ++ [_]).length : Int)
    rw [List.length_append, List.length_append]
    show ((F.length + 1 : Nat) : Int) = n.log.base + ((n.log.items.length + 1 : Nat) : Int)
    omega
  · show (F ++ [_]).drop n.log.base.toNat = n.log.items ++ [_]
    rw [List.drop_append_of_le_length (by omega), h.it]
  · show n.log.baseTerm = endTm tmI ((F ++ [_]).take n.log.base.toNat)
    rw [List.take_append_of_le_length (by omega)]; exact h.bt
/-- A leader lays an entry. -/
theorem Here.lay (h : Here sz g v n F) (hr : n.role = 2) (hpos : 0 < n.log.term) {e : Entry} (hv : validB e = true) (hsm : n.log.items.length < 256) : ∃ g', Moved tmI sz g g' v (absN n F) (absN (putN n e) (F ++ [⟨n.log.term, e⟩])) (fun _ => False) ∧ Longer g g' F (F ++ [⟨n.log.term, e⟩]) := by
  have hf := h.fine
  have hmn : n.me.toNat = v := by rw [h.me]; exact Int.toNat_natCast v
  have hlast := h.link.last
  have hl := h.link.len
  have hb := hf.b1
  have hr2 : (absN n F).role = 2 := abs_role hr
  obtain ⟨g', hm, hLL, _⟩ := h.su.lead (a' := absN (layN n e) (F ++ [⟨n.log.term, e⟩])) (xs := [⟨n.log.term, e⟩]) rfl rfl rfl hr2 rfl (fun x hx => by rw [List.mem_singleton.1 hx]; rfl) hpos (fun k hk => by
    show (if k = n.me.toNat then n.log.base + n.log.items.length + 1 else n.mat k).toNat ≤ _
    rw [hmn]
    by_cases hkv : k = v
    · rw [if_pos hkv, if_pos hkv]
      show _ ≤ (F ++ [_]).length
      rw [List.length_append]
      show (n.log.base + n.log.items.length + 1).toNat ≤ F.length + 1
      omega
    · rw [if_neg hkv, if_neg hkv, if_pos hr2]
      exact Nat.le_refl _) (.inl hr2)
  refine ⟨g', hm.then ?_ rfl, .lead hLL (fun t ht => hm.gr.L t ht) rfl (Nat.le_refl 1)⟩
  exact (h.next hm (lay_fine hf hv hsm) rfl rfl (link_put h.link hf)).commitN hr
theorem Went.of (h : Here sz g v n F) {asked : Nat → Prop} (hm : Moved tmI sz g g' v (absN n F) (absN n' F') asked) (hask : ∀ w, w < sz → w ≠ v → asked w → n'.log.term ≤ tms w) (hf : Fine n') (hme : n'.me = n.me) (hsz : n'.size = n.size) (hl : Link n' F') (hb : n'.log.base.toNat ≤ S) (hlg : Longer g g' F F') {ks : List Msg}
    (hks : ∀ tms' : Nat → Int, tms' v = n'.log.term → Here sz g' v n' F' → ∀ m ∈ ks, MOK sz g' tms' S m) : Went sz g v n F tms S n' ks :=
  have hh := h.next hm hf hme hsz hl
  ⟨g', F', asked, hm, hask, hh, hks _ (if_pos rfl) hh, hb, hlg⟩
theorem pop_cnt {s v : Nat} (hs : s < 8) (hv : v < 2 ^ s) : popN v = cnt s fun k => v.testBit k := by
  have key : ((List.range 8).all fun s => (List.range (2 ^ s)).all fun v => popN v == cnt s fun k => v.testBit k) = true := by kernel_rfl
  have := List.all_eq_true.1 (List.all_eq_true.1 key s (List.mem_range.2 hs)) v (List.mem_range.2 hv)
  exact eq_of_beq this
theorem enough_most (h : Fine n) (hsz : n.size = (sz : Int)) (he : enoughB n = true) : Most sz (bitN n.votes) := by
  have h1 := h.s1; have h2 := h.s2; have h3 := h.w1; have h4 := h.w2
  unfold enoughB at he
  have he : 2 * (popN n.votes.toNat : Int) > n.size := of_decide_eq_true he
  have e : n.size.toNat = sz := by omega
  rw [e] at h4
  have hlt : n.votes.toNat < 2 ^ sz := by
    have : ((2 ^ sz : Nat) : Int) = 2 ^ sz := by simp
    omega
  have := pop_cnt (s := sz) (by omega) hlt
  unfold Most
  show sz < 2 * cnt sz fun k => n.votes.toNat.testBit k
  rw [← this]
  omega
/-- A candidate that a majority voted for leads. -/
theorem Here.win (h : Here sz g v n F) (hr : n.role = 1) (he : enoughB n = true) (hpos : 0 < n.log.term) : ∃ g' F', Moved tmI sz g g' v (absN n F) (absN (winN n) F') (fun _ => False) ∧ Link (winN n) F' ∧ Longer g g' F F' := by
  have hf := h.fine
  have hmn : n.me.toNat = v := by rw [h.me]; exact Int.toNat_natCast v
  have hl := h.link.len
  have hb := hf.b1
  have hsz := h.size
  have hr1 : (absN n F).role = 1 := abs_role hr
  have hmost := enough_most hf h.size he
  have hlf := lead_fine hf
  have hlk : Link (leadN n) F := ⟨h.link.len, h.link.it, h.link.bt⟩
  unfold winN
  split
  · rename_i hsm
    obtain ⟨g', hm, hLL, _⟩ := h.su.lead (a' := absN (layN (leadN n) noneE) (F ++ [⟨n.log.term, noneE⟩])) (xs := [⟨n.log.term, noneE⟩]) rfl rfl rfl rfl rfl (fun x hx => by rw [List.mem_singleton.1 hx]; rfl) hpos (fun k hk => by
      show (if k = n.me.toNat then n.log.base + n.log.items.length + 1 else if k = n.me.toNat then n.log.base + n.log.items.length else if k < n.size.toNat then 0 else n.mat k).toNat ≤ _
      rw [hmn]
      by_cases hkv : k = v
      · rw [if_pos hkv, if_pos hkv]
        show _ ≤ (F ++ [_]).length
        rw [List.length_append]
        show (n.log.base + n.log.items.length + 1).toNat ≤ F.length + 1
        omega
      · rw [if_neg hkv, if_neg hkv, if_neg hkv, if_pos (by omega)]
        exact Nat.zero_le _) (.inr ⟨hr1, hmost⟩)
    have hlk2 : Link (layN (leadN n) noneE) (F ++ [⟨n.log.term, noneE⟩]) := link_put hlk hlf
    refine ⟨g', _, hm.then ?_ rfl, ⟨hlk2.len, hlk2.it, hlk2.bt⟩, .lead hLL (fun t ht => hm.gr.L t ht) rfl (Nat.le_refl 1)⟩
    exact (h.next hm (lay_fine hlf valid_none hsm) rfl rfl hlk2).commitN rfl
  · obtain ⟨g', hm, hLL, _⟩ := h.su.lead (a' := absN (leadN n) F) (xs := []) (List.append_nil F).symm rfl rfl rfl rfl (fun x hx => by cases hx) hpos (fun k hk => by
      show (if k = n.me.toNat then n.log.base + n.log.items.length else if k < n.size.toNat then 0 else n.mat k).toNat ≤ _
      rw [hmn]
      by_cases hkv : k = v
      · rw [if_pos hkv, if_pos hkv]
        show _ ≤ (F ++ []).length
        rw [List.append_nil]
        omega
      · rw [if_neg hkv, if_neg hkv, if_pos (by omega)]
        exact Nat.zero_le _) (.inr ⟨hr1, hmost⟩)
    exact ⟨g', F, hm, hlk, .lead (T := n.log.term) (xs := []) (hLL.trans (List.append_nil F)) (fun t ht => hm.gr.L t ht) (List.append_nil F).symm (Nat.zero_le 1)⟩
end turn
end Go.Proofs.Ytjpjiniclibgkaa.Sx

namespace Go.Proofs.Ytjpjiniclibgkaa.Sx
open Go Safe

section step
variable {sz v : Nat} {g g' : Gh Item} {n n' n1 : Node} {F F' : List Item} {tms : Nat → Int} {S : Nat} {k : Msg}
/-- A turn in which nothing that is thought of changes. -/
theorem Went.still (h : Here sz g v n F) (hb : n.log.base.toNat ≤ S) {ks : List Msg} (hks : ∀ tms' : Nat → Int, tms' v = n.log.term → ∀ m ∈ ks, MOK sz g tms' S m) : Went sz g v n F tms S n ks :=
  Went.of h (asked := fun _ => False) (Moved.still h.su h.su.nk (Int.le_refl _)) (fun _ _ _ h => h.elim) h.fine rfl rfl h.link hb (.same rfl (.inl (Nat.le_refl _))) fun tms' ht _ => hks tms' ht
theorem Went.first {b : Nat → Prop} (hm : Moved tmI sz g g v (absN n F) (absN n1 F) b) {ks : List Msg} (h : Went sz g v n1 F (fun w => if w = v then n1.log.term else tms w) S n' ks) : Went sz g v n F tms S n' ks := by
  obtain ⟨g', F', asked, h1, h2, h3, h4, h5, h6⟩ := h
  refine ⟨g', F', asked, hm.first h1, fun w hw hwv ha => ?_, h3, fun m hm => ?_, h5, h6⟩
  · have this : n'.log.term ≤ if w = v then n1.log.term else tms w := h2 w hw hwv ha
    rwa [if_neg hwv] at this
  · have := h4 m hm
    have e : (fun w => if w = v then n'.log.term else if w = v then n1.log.term else tms w) = fun w => if w = v then n'.log.term else tms w := by
      funext w
      by_cases hw : w = v
      · simp [hw]
      · simp [hw]
    rwa [e] at this
theorem repl_mem {a : Node} {k m : Msg} {r : HeardR} (h : m ∈ repl1 a k r) : ∃ x, r.k = some x ∧ m = sayN a k.frm x := by
  unfold repl1 at h
  split at h
  · rename_i x hx; exact ⟨x, hx, List.mem_singleton.1 h⟩
  · cases h
/-- A node follows, maybe in a later term. -/
theorem Here.follow (h : Here sz g v n F) {T l : Int} (hT : n.log.term ≤ T) (hf : Fine (followN n T l)) : Moved tmI sz g g v (absN n F) (absN (followN n T l) F) (fun _ => False) ∧ Here sz g v (followN n T l) F ∧ (followN n T l).log.term = T ∧ (followN n T l).role = 0 ∧ (followN n T l).log.base = n.log.base := by
  have hlog : (followN n T l).log = if T > n.log.term then { n.log with term := T, vote := -1 } else n.log := rfl
  have hterm : (followN n T l).log.term = T := by
    rw [hlog]; split
    · rfl
    · omega
  have hbase : (followN n T l).log.base = n.log.base := by rw [hlog]; split <;> rfl
  have hitems : (followN n T l).log.items = n.log.items := by rw [hlog]; split <;> rfl
  have hbt : (followN n T l).log.baseTerm = n.log.baseTerm := by rw [hlog]; split <;> rfl
  have hm : Moved tmI sz g g v (absN n F) (absN (followN n T l) F) (fun _ => False) := by
    refine h.su.down rfl (by show n.log.term ≤ (followN n T l).log.term; omega) ?_ rfl (Nat.le_refl _)
    show (if (followN n T l).log.vote = -1 then none else some (followN n T l).log.vote.toNat) = if n.log.term < (followN n T l).log.term then none else (if n.log.vote = -1 then none else some n.log.vote.toNat)
    rw [hterm, hlog]
    by_cases hc : T > n.log.term
    · rw [if_pos hc, if_pos (show n.log.term < T from hc)]; rfl
    · rw [if_neg hc, if_neg (show ¬ n.log.term < T from hc)]
  exact ⟨hm, h.next hm hf rfl rfl ⟨by rw [hbase, hitems]; exact h.link.len, by rw [hbase, hitems]; exact h.link.it, by rw [hbt, hbase]; exact h.link.bt⟩, hterm, rfl, hbase⟩
/-- Asked for a vote. -/
theorem Here.ask (h : Here sz g v n F) (hk : Heard n k) (hok : MOK sz g tms S k) (hkind : k.kind = 1) (hb : n.log.base.toNat ≤ S) : Went sz g v n F tms S (heardS n k (askR n k)).n (heardS n k (askR n k)).ks := by
  have hf := h.fine
  have hv := h.vl
  have hf1 := hk.f1
  have hsz := h.size
  have hme := h.me
  have hf3 := hk.f3
  show Went sz g v n F tms S (askN n k) (repl1 n k (askR n k))
  cases hy : askB n k with
  | false =>
    have e : askN n k = n := by unfold askN; rw [hy]
    rw [e]
    refine Went.still h hb fun tms' ht m hm => ?_
    obtain ⟨x, hx, rfl⟩ := repl_mem hm
    have hx : voteM (askB n k) = x := Option.some.inj hx
    rw [← hx, hy]
    exact h.voted ht hf1 hk.f2 (fun h => by cases h)
  | true =>
    obtain ⟨a1, a2, a3, a4, a5, a6⟩ := hok.ask hkind
    have hyy := hy
    unfold askB at hyy
    simp only [Bool.and_eq_true, Bool.or_eq_true, beq_iff_eq] at hyy
    obtain ⟨⟨hterm, hvote⟩, hnew⟩ := hyy
    rw [hterm] at a1 a2 a3 a4 a5 a6
    have hcv : k.frm.toNat ≠ v := by omega
    unfold newerB at hnew
    simp only [Bool.or_eq_true, Bool.and_eq_true, decide_eq_true_eq, beq_iff_eq] at hnew
    rw [h.link.lastN hf, a2, a3] at hnew
    have hnew : endTm tmI (g.C k.frm.toNat n.log.term) > endTm tmI F ∨ endTm tmI (g.C k.frm.toNat n.log.term) = endTm tmI F ∧ ((g.C k.frm.toNat n.log.term).length : Int) ≥ (F.length : Int) := hnew
    obtain ⟨g', hm, hV, hL⟩ := h.su.vote (c := k.frm.toNat) hcv (by
      show (if n.log.vote = -1 then none else some n.log.vote.toNat) = none ∨ (if n.log.vote = -1 then none else some n.log.vote.toNat) = some k.frm.toNat
      rcases hvote with h1 | h1
      · exact .inl (if_pos h1)
      · rw [h1]; exact .inr (if_neg (by omega))) a4 a5 a6 (by
      rcases hnew with h1 | ⟨h1, h2⟩
      · exact .inl h1
      · exact .inr ⟨h1.symm, by show F.length ≤ (g.C k.frm.toNat n.log.term).length; omega⟩)
    have e : askN n k = { n with log := { n.log with vote := k.frm } } := by unfold askN; rw [hy]
    have ha : absN { n with log := { n.log with vote := k.frm } } F = { absN n F with vote := some k.frm.toNat } := by
      have : (if k.frm = -1 then none else some k.frm.toNat) = some k.frm.toNat := if_neg (by omega)
      unfold absN
      simp only [this]
    have hfa := ask_fine hf hk.f1 hk.f2
    rw [e] at hfa ⊢
    refine Went.of h (F' := F) (ha ▸ hm) (fun w hw _ hwa => ?_) hfa rfl rfl ⟨h.link.len, h.link.it, h.link.bt⟩ hb (.same hL (.inl (Nat.le_refl _))) fun tms' ht hh m hm => ?_
    · subst hwa
      show n.log.term ≤ _
      rw [← hterm]; exact hok.tl
    · obtain ⟨x, hx, rfl⟩ := repl_mem hm
      have hx : voteM (askB n k) = x := Option.some.inj hx
      rw [← hx, hy]
      exact hh.voted ht hf1 hk.f2 (fun _ => hV)
theorem or_bits {s v f w : Nat} (hs : s < 8) (hv : v < 2 ^ s) (hf : f < s) (hw : w < s) : bitN (bits .or .i64 (v : Int) (IntKind.i64.wrap (1 * 2 ^ (min (f : Int).toNat IntKind.i64.bits)))) w = (v.testBit w || w == f) := by
  have key : ((List.range 8).all fun s => (List.range (2 ^ s)).all fun v => (List.range s).all fun f => (List.range s).all fun w => bitN (bits .or .i64 (v : Int) (IntKind.i64.wrap (1 * 2 ^ (min (f : Int).toNat IntKind.i64.bits)))) w == (v.testBit w || w == f)) = true := by kernel_rfl
  have := List.all_eq_true.1 (List.all_eq_true.1 (List.all_eq_true.1 (List.all_eq_true.1 key s (List.mem_range.2 hs)) v (List.mem_range.2 hv)) f (List.mem_range.2 hf)) w (List.mem_range.2 hw)
  exact eq_of_beq this
/-- A vote is heard, and counted. -/
theorem Here.vote (h : Here sz g v n F) (hk : Heard n k) (hok : MOK sz g tms S k) (hkind : k.kind = 2) (hb : n.log.base.toNat ≤ S) : Went sz g v n F tms S (if voteB n k = true then leadS (orN n k) else ⟨n, [], 0⟩).n (if voteB n k = true then leadS (orN n k) else ⟨n, [], 0⟩).ks := by
  have hf := h.fine
  have hsz := h.size
  have hs1 := hf.s1; have hs2 := hf.s2; have hw1 := hf.w1; have hw2 := hf.w2; have hf1 := hk.f1; have hf2 := hk.f2
  have hme := h.me
  cases hv : voteB n k with
  | false => exact Went.still h hb fun _ _ m hm => by cases hm
  | true =>
    show Went sz g v n F tms S (leadS (orN n k)).n (leadS (orN n k)).ks
    unfold voteB at hv
    simp only [Bool.and_eq_true, beq_iff_eq] at hv
    obtain ⟨⟨hro, hterm⟩, hyes⟩ := hv
    have hvt := hok.vote hkind hyes
    rw [hterm, hk.to, hme, Int.toNat_natCast] at hvt
    have hfo := or_fine (k := k) hf hf1 hf2
    have hr1 : (absN n F).role = 1 := abs_role hro
    have hpos : 0 < n.log.term := (h.su.nk.ca hr1).2.2.2.2
    have hlt : n.votes.toNat < 2 ^ sz := by
      have e : n.size.toNat = sz := by omega
      rw [e] at hw2
      have : ((2 ^ sz : Nat) : Int) = 2 ^ sz := by simp
      omega
    have hm : Moved tmI sz g g v (absN n F) (absN (orN n k) F) (fun _ => False) := by
      refine h.su.on (a' := absN (orN n k) F) rfl rfl rfl rfl (fun w hw hwb => ?_) (fun hr => absurd hr (by rw [hr1]; decide)) h.com.1 h.com.2
      have hwb : bitN (orV n k) w = true := hwb
      have e1 : ((n.votes.toNat : Nat) : Int) = n.votes := by omega
      have e2 : ((k.frm.toNat : Nat) : Int) = k.frm := by omega
      have := or_bits (s := sz) (v := n.votes.toNat) (f := k.frm.toNat) (w := w) (by omega) hlt (by omega) hw
      rw [e1, e2] at this
      unfold orV at hwb
      rw [this] at hwb
      rcases Bool.or_eq_true_iff.1 hwb with h1 | h1
      · exact .inl h1
      · rw [eq_of_beq h1]; exact .inr hvt
    have ho : Here sz g v (orN n k) F := h.next hm hfo rfl rfl ⟨h.link.len, h.link.it, h.link.bt⟩
    refine Went.first hm ?_
    unfold leadS
    split
    · rename_i hen
      obtain ⟨g', F', hm2, hl2, hlg⟩ := ho.win hro hen hpos
      have hsize : (winN (orN n k)).size = (orN n k).size ∧ (winN (orN n k)).me = (orN n k).me ∧ (winN (orN n k)).log.base = n.log.base ∧ (winN (orN n k)).role = 2 := by unfold winN; split <;> exact ⟨rfl, rfl, rfl, rfl⟩
      refine Went.of ho hm2 (fun _ _ _ h => h.elim) (win_fine hfo) hsize.2.1 hsize.1 hl2 (by rw [hsize.2.2.1]; exact hb) hlg fun tms' ht hh m hm => ?_
      exact hh.feedAll hsize.2.2.2 ht (by rw [hsize.2.2.1]; exact hb) m hm
    · exact Went.still ho hb fun _ _ m hm => by cases hm
/-- A leader hears how far a node is. -/
theorem Here.got (h : Here sz g v n F) (hk : Heard n k) (hok : MOK sz g tms S k) (hkind : k.kind = 4) (hb : n.log.base.toNat ≤ S) : Went sz g v n F tms S (gotN n k) (if gotY n k = true then [feedN (gotN n k) k.frm] else []) := by
  have hf := h.fine
  have hgf := got_fine (k := k) hf hk.f1 hk.f2 hk.a1
  have hsz := h.size
  have hf1 := hk.f1; have hf2 := hk.f2
  obtain ⟨h1, h2, h3⟩ := got_keeps n k
  have hlk : Link (gotN n k) F := ⟨by rw [h3]; exact h.link.len, by rw [h3]; exact h.link.it, by rw [h3]; exact h.link.bt⟩
  -- what is thought of stays
  have hn : NOK tmI sz g v (absN (gotN n k) F) ∧ (gotY n k = true → (gotN n k).role = 2) := by
    cases hl : isLead n k with
    | false =>
      have e : gotN n k = n := by unfold gotN; rw [hl]
      rw [e]
      exact ⟨h.su.nk, fun hy => by unfold gotY at hy; rw [hl] at hy; cases hy⟩
    | true =>
      have hll := hl
      unfold isLead at hll
      simp only [Bool.and_eq_true, beq_iff_eq] at hll
      obtain ⟨hro, hterm⟩ := hll
      have hr2 : (absN n F).role = 2 := abs_role hro
      cases hy : k.yes with
      | true =>
        have e : gotN n k = { hearN n k with commit := Sx.commitN (hearN n k) } := by unfold gotN; rw [hl, hy]
        rw [e]
        refine ⟨?_, fun _ => hro⟩
        have hgot := hok.got hkind hy
        rw [hterm] at hgot
        have hm : Moved tmI sz g g v (absN n F) (absN (hearN n k) F) (fun _ => False) := by
          refine h.su.on (a' := absN (hearN n k) F) rfl rfl rfl rfl (fun w _ hwb => .inl hwb) (fun _ j hj => ?_) h.com.1 h.com.2
          show (if j = k.frm.toNat then farI n k else n.mat j).toNat ≤ g.A j n.log.term
          have hle := (h.su.nk.le hr2).2.2
          by_cases hjk : j = k.frm.toNat
          · rw [if_pos hjk, hjk]
            have := hle k.frm.toNat (by omega)
            have this : (n.mat k.frm.toNat).toNat ≤ g.A k.frm.toNat n.log.term := this
            unfold farI
            omega
          · rw [if_neg hjk]; exact hle j hj
        exact (h.next hm (hear_fine hf hf1 hf2 hk.a1) rfl rfl ⟨h.link.len, h.link.it, h.link.bt⟩).commitN hro
      | false =>
        unfold gotN
        rw [hl, hy]
        show NOK tmI sz g v (absN (match decide (backI n k < n.next k.frm.toNat) with | true => { n with next := fun j => if j = k.frm.toNat then backI n k else n.next j } | false => n) F) ∧ (gotY n k = true → (match decide (backI n k < n.next k.frm.toNat) with | true => ({ n with next := fun j => if j = k.frm.toNat then backI n k else n.next j } : Node) | false => n).role = 2)
        cases decide (backI n k < n.next k.frm.toNat) with
        | true => exact ⟨h.su.nk, fun _ => hro⟩
        | false => exact ⟨h.su.nk, fun _ => hro⟩
  have hm : Moved tmI sz g g v (absN n F) (absN (gotN n k) F) (fun _ => False) := Moved.still h.su hn.1 (by show n.log.term ≤ (gotN n k).log.term; rw [h3]; exact Int.le_refl _)
  refine Went.of h hm (fun _ _ _ h => h.elim) hgf h1 h2 hlk (by rw [h3]; exact hb) (.same rfl (.inl (Nat.le_refl _))) fun tms' ht hh m hm => ?_
  split at hm
  · rename_i hy
    obtain rfl := List.mem_singleton.1 hm
    exact hh.feed (hn.2 hy) ht (by rw [h3]; exact hb) hf1 (by rw [h2]; exact hf2)
  · cases hm
end step
end Go.Proofs.Ytjpjiniclibgkaa.Sx

namespace Go.Proofs.Ytjpjiniclibgkaa.Sx
open Go Safe

/-- On the way of laying: up to a, the log is the leader's; it is as before, or a beginning of the leader's that has all that both began with. -/
structure LayI (L F0 : List Item) (n : Node) (F : List Item) (a : Int) : Prop where
  link : Link n F
  b0 : 0 ≤ n.log.base
  ab : n.log.base ≤ a
  aF : a.toNat ≤ F.length
  aL : a.toNat ≤ L.length
  tk : L.take a.toNat <+: F
  or : F = F0 ∨ (F <+: L ∧ ∀ p, p <+: F0 → p <+: L → p <+: F)
section lay
variable {g : Gh Item} {T : Int} {L F0 F : List Item} {n : Node}
theorem link_push (h : Link n F) (hb : 0 ≤ n.log.base) {x : Item} : Link (pushN n x) (F ++ [x]) := by
  have hl := h.len
  refine ⟨?_, ?_, ?_⟩
  · show ((F ++ [x]).length : Int) = n.log.base + ((n.log.items ++ [x]).length : Int)
    rw [List.length_append, List.length_append]
    show ((F.length + 1 : Nat) : Int) = n.log.base + ((n.log.items.length + 1 : Nat) : Int)
    omega
  · show (F ++ [x]).drop n.log.base.toNat = n.log.items ++ [x]
    rw [List.drop_append_of_le_length (by omega), h.it]
  · show n.log.baseTerm = endTm tmI ((F ++ [x]).take n.log.base.toNat)
    rw [List.take_append_of_le_length (by omega)]; exact h.bt
theorem link_trunc (h : Link n F) (hb : 0 ≤ n.log.base) {a : Int} (h1 : n.log.base ≤ a) (h2 : a.toNat ≤ F.length) : Link (truncN n a) (F.take a.toNat) := by
  have hl := h.len
  refine ⟨?_, ?_, ?_⟩
  · show ((F.take a.toNat).length : Int) = n.log.base + ((n.log.items.take (a - n.log.base).toNat).length : Int)
    rw [List.length_take, List.length_take]
    omega
  · show (F.take a.toNat).drop n.log.base.toNat = n.log.items.take (a - n.log.base).toNat
    rw [← h.it, List.drop_take]
    congr 1
    omega
  · show n.log.baseTerm = endTm tmI ((F.take a.toNat).take n.log.base.toNat)
    rw [List.take_take, Nat.min_eq_left (by omega)]; exact h.bt
/-- Logs that have an entry of one term at one place are alike up to there. -/
theorem grown_eq {l k : List Item} {a b : Int} (hl : Grown tmI g l a) (hk : Grown tmI g k b) {i : Nat} {x y : Item} (hx : l[i]? = some x) (hy : k[i]? = some y) (hxy : x.term = y.term) : l.take (i + 1) = k.take (i + 1) := by
  have h1 := (hl i x hx).2.2
  have h2 := (hk i y hy).2.2
  have h1 : l.take (i + 1) <+: g.L x.term := h1
  have h2 : k.take (i + 1) <+: g.L y.term := h2
  rw [← hxy] at h2
  have hil := (List.getElem?_eq_some_iff.1 hx).1
  have hik := (List.getElem?_eq_some_iff.1 hy).1
  have e1 : (l.take (i + 1)).length = i + 1 := by rw [List.length_take]; omega
  have e2 : (k.take (i + 1)).length = i + 1 := by rw [List.length_take]; omega
  have := pre_two h1 h2 (by omega)
  exact this.eq_of_length (by omega)
theorem take_snoc' {l : List Item} {i : Nat} {x : Item} (hx : l[i]? = some x) : l.take (i + 1) = l.take i ++ [x] := by
  rw [List.take_add_one, hx]; rfl
theorem layGo_ok (hL : Grown tmI g L T) (h0 : Grown tmI g F0 T) : ∀ (xs : List Item) (n : Node) (F : List Item) (a : Int), LayI L F0 n F a → xs <+: L.drop a.toNat →
    ∃ F' its, LayI L F0 (layGo n a xs).n F' (layGo n a xs).a ∧ (layGo n a xs).n = { n with log := { n.log with items := its } }
  | [], n, F, a, h, _ => ⟨F, n.log.items, h, rfl⟩
  | x :: r, n, F, a, h, hxs => by
    have hb := h.b0
    have ha0 := h.ab
    have hlast := h.link.last
    have haF := h.aF
    have haL := h.aL
    have hxL : L[a.toNat]? = some x := by
      have := pre_get hxs (i := 0) (x := x) rfl
      rwa [List.getElem?_drop, Nat.add_zero] at this
    have hr : r <+: L.drop (a + 1).toNat := by
      have := pre_drop hxs 1
      rw [List.drop_drop] at this
      have e : a.toNat + 1 = (a + 1).toNat := by omega
      rw [e] at this
      exact this
    have hG : Grown tmI g F T := by
      rcases h.or with h1 | h1
      · rw [h1]; exact h0
      · exact hL.less h1.1
    have haL1 : a.toNat + 1 ≤ L.length := by have := (List.getElem?_eq_some_iff.1 hxL).1; omega
    have e1 : (a + 1).toNat = a.toNat + 1 := by omega
    -- what is pushed behind the common part
    have push : ∀ (n1 : Node), Link n1 (L.take a.toNat) → n1.log.base = n.log.base → (∀ p, p <+: F0 → p <+: L → p <+: L.take a.toNat) → LayI L F0 (pushN n1 x) (L.take a.toNat ++ [x]) (a + 1) := fun n1 hl1 hb1 hp => by
      have ht : L.take a.toNat ++ [x] = L.take (a.toNat + 1) := (take_snoc' hxL).symm
      refine ⟨link_push hl1 (by omega), by show 0 ≤ n1.log.base; omega, by show n1.log.base ≤ a + 1; omega, ?_, by omega, ?_, .inr ⟨?_, fun p h1 h2 => ?_⟩⟩
      · rw [ht, List.length_take]; omega
      · rw [ht, e1]; exact List.prefix_refl _
      · rw [ht]; exact List.take_prefix _ _
      · exact (hp p h1 h2).trans (List.prefix_append _ _)
    -- that part, where nothing is pushed
    have stop : ∀ (n1 : Node), Link n1 (L.take a.toNat) → n1.log.base = n.log.base → (∀ p, p <+: F0 → p <+: L → p <+: L.take a.toNat) → LayI L F0 n1 (L.take a.toNat) a := fun n1 hl1 hb1 hp =>
      ⟨hl1, by omega, by omega, by rw [List.length_take]; omega, haL, List.prefix_refl _, .inr ⟨List.take_prefix _ _, hp⟩⟩
    by_cases hlt : a.toNat < F.length
    · have hy := List.getElem?_eq_getElem hlt
      obtain ⟨y, hyd⟩ : ∃ y, y = F[a.toNat] := ⟨_, rfl⟩
      rw [← hyd] at hy
      have hta := h.link.term hb (i := a + 1) (by omega) (by omega)
      have hty : (termAtN n.log (a + 1)).1 = y.term := by rw [hta, e1]; exact endTm_take (by omega) hy
      have htk : (termAtN n.log (a + 1)).2 = true := by rw [hta]
      by_cases hxy : y.term = x.term
      · have hcut : cutN n a x = n := by
          have : cutB n a x = false := by unfold cutB; rw [if_pos htk, hty, hxy]; simp
          unfold cutN; rw [this]
        have hgo : layGo n a (x :: r) = layGo n (a + 1) r := by
          rw [layGo, hcut, if_pos (by omega)]
        rw [hgo]
        have heq := grown_eq hG hL hy hxL hxy
        exact layGo_ok hL h0 r n F (a + 1) ⟨h.link, hb, by omega, by omega, by omega, by rw [e1, ← heq]; exact List.take_prefix _ _, h.or⟩ hr
      · have hcut : cutN n a x = truncN n a := by
          have : cutB n a x = true := by unfold cutB; rw [if_pos htk, hty]; simp [hxy]
          unfold cutN; rw [this]
        have hF0 : F = F0 := by
          rcases h.or with h1 | h1
          · exact h1
          · have := pre_get h1.1 hy
            rw [hxL] at this
            cases this
            exact absurd rfl hxy
        have hFa : F.take a.toNat = L.take a.toNat := by
          have := pre_eq h.tk (i := a.toNat) (by rw [List.length_take]; omega)
          rw [List.take_take, Nat.min_self] at this
          exact this.symm
        have hlk : Link (truncN n a) (L.take a.toNat) := hFa ▸ link_trunc h.link hb ha0 haF
        have hp : ∀ p, p <+: F0 → p <+: L → p <+: L.take a.toNat := fun p h1 h2 => by
          rw [← hF0] at h1
          by_cases hpl : p.length ≤ a.toNat
          · exact pre_two h2 (List.take_prefix _ _) (by rw [List.length_take]; omega)
          · exfalso
            have hlt2 : a.toNat < p.length := by omega
            have hz := List.getElem?_eq_getElem hlt2
            have g1 := pre_get h1 hz
            have g2 := pre_get h2 hz
            rw [hy] at g1
            rw [hxL] at g2
            have : y = x := by rw [Option.some.inj g1, Option.some.inj g2]
            exact hxy (by rw [this])
        have hlI : lastI (truncN n a) = (((L.take a.toNat).length : Nat) : Int) := hlk.last
        have hll : (L.take a.toNat).length = a.toNat := by rw [List.length_take]; omega
        have hgo : layGo n a (x :: r) = if (truncN n a).log.items.length ≥ 256 then ⟨truncN n a, a⟩ else layGo (pushN (truncN n a) x) (a + 1) r := by
          rw [layGo, hcut, if_neg (by omega)]
        rw [hgo]
        split
        · exact ⟨_, _, stop _ hlk rfl hp, rfl⟩
        · obtain ⟨F', its, h1, h2⟩ := layGo_ok hL h0 r _ _ (a + 1) (push _ hlk rfl hp) hr
          exact ⟨F', its, h1, h2⟩
    · have hFl : F.length = a.toNat := by omega
      have hFe : F = L.take a.toNat := (h.tk.eq_of_length (by rw [List.length_take]; omega)).symm
      have hunk : (termAtN n.log (a + 1)).2 = false := by
        cases hk : (termAtN n.log (a + 1)).2 with
        | false => rfl
        | true => have := (known_rng hk).2; omega
      have hcut : cutN n a x = n := by
        have : cutB n a x = false := by unfold cutB; rw [if_neg (by rw [hunk]; decide)]
        unfold cutN; rw [this]
      have hgo : layGo n a (x :: r) = if n.log.items.length ≥ 256 then ⟨n, a⟩ else layGo (pushN n x) (a + 1) r := by
        rw [layGo, hcut, if_neg (by omega)]
      have hp : ∀ p, p <+: F0 → p <+: L → p <+: L.take a.toNat := fun p h1 h2 => by
        rw [← hFe]
        rcases h.or with h3 | h3
        · rw [h3]; exact h1
        · exact h3.2 p h1 h2
      rw [hgo]
      split
      · exact ⟨F, n.log.items, h, rfl⟩
      · obtain ⟨F', its, h1, h2⟩ := layGo_ok hL h0 r _ _ (a + 1) (push n (hFe ▸ h.link) rfl hp) hr
        exact ⟨F', its, h1, h2⟩
end lay
end Go.Proofs.Ytjpjiniclibgkaa.Sx

namespace Go.Proofs.Ytjpjiniclibgkaa.Sx
open Go Safe

section lead
variable {sz v : Nat} {g g' : Gh Item} {n n' : Node} {F F' : List Item} {tms : Nat → Int} {S : Nat} {k : Msg}
/-- A follower's turn: what it has then of the leader's log, and how far it says to have it. -/
theorem Here.laid (h : Here sz g v n F) (hl : (g.ld n.log.term).isSome = true) {a : Nat} (hterm : n'.log.term = n.log.term) (hvote : n'.log.vote = n.log.vote) (hrole : n'.role = 0) (hme : n'.me = n.me) (hsz : n'.size = n.size) (hf : Fine n') (hlk : Link n' F')
    (hF : F' = F ∨ (F' <+: g.L n.log.term ∧ ∀ p, p <+: F → p <+: g.L n.log.term → p <+: F')) (hn : (g.L n.log.term).take a <+: F') (hal : a ≤ (g.L n.log.term).length)
    (hc : n'.commit = n.commit ∨ (n'.commit.toNat ≤ a ∧ Pre tmI sz g ((g.L n.log.term).take n'.commit.toNat) n.log.term)) (hb : n'.log.base.toNat ≤ S) {x : Option Msg} (hx : ∀ m, x = some m → ∃ last yes, m = ansM last yes ∧ (yes = true → last.toNat ≤ a)) (hk : Heard n k) :
    Went sz g v n F tms S n' (repl1 n' k ⟨n', x⟩) := by
  obtain ⟨g', hm, hA, hL⟩ := h.su.lay (a' := absN n' F') (n := a) hl hterm (by
    show (if n'.log.vote = -1 then none else some n'.log.vote.toNat) = (if n.log.vote = -1 then none else some n.log.vote.toNat)
    rw [hvote]) (by show n'.role.toNat = 0; rw [hrole]; rfl) hF hn hal (by
    rcases hc with h1 | h1
    · exact .inl (by show n'.commit.toNat = n.commit.toNat; rw [h1])
    · exact .inr h1)
  refine Went.of h hm (fun _ _ _ h => h.elim) hf hme hsz hlk hb (.same hL (by
    rcases hF with hF | hF
    · rw [hF]; exact .inl (Nat.le_refl _)
    · exact .inr ⟨_, hF.1.length_le⟩)) fun tms' ht hh m hmm => ?_
  obtain ⟨y, hy, rfl⟩ := repl_mem hmm
  obtain ⟨last, yes, rfl, hyes⟩ := hx y hy
  refine hh.ans ht hk.f1 (by rw [hsz]; exact hk.f2) fun hye => Nat.le_trans (hyes hye) ?_
  rw [hterm]; exact hA
/-- What both agree upon up to a place that both tell of. -/
theorem agree_at {F L : List Item} {a b : Int} (hF : Grown tmI g F a) (hL : Grown tmI g L b) {i : Nat} (h1 : i ≤ F.length) (h2 : i ≤ L.length) (he : endTm tmI (F.take i) = endTm tmI (L.take i)) : F.take i = L.take i := by
  cases i with
  | zero => simp
  | succ i =>
    have hx := List.getElem?_eq_getElem (show i < F.length by omega)
    have hy := List.getElem?_eq_getElem (show i < L.length by omega)
    obtain ⟨x, hxd⟩ : ∃ x, x = F[i] := ⟨_, rfl⟩
    obtain ⟨y, hyd⟩ : ∃ y, y = L[i] := ⟨_, rfl⟩
    rw [← hxd] at hx
    rw [← hyd] at hy
    rw [endTm_take (by omega) hx, endTm_take (by omega) hy] at he
    exact grown_eq hF hL hx hy he
/-- What is committed, and the snapshot, the leader has. -/
theorem Here.has (h : Here sz g v n F) (hl : (g.ld n.log.term).isSome = true) {i : Nat} (hi : i ≤ n.commit.toNat) : (g.L n.log.term).take i = F.take i ∧ i ≤ (g.L n.log.term).length := by
  obtain ⟨h1, h2⟩ := h.com
  have hp := Pre.leader h.su.ok h2 (Int.le_refl _) hl
  have hlen : (F.take n.commit.toNat).length = n.commit.toNat := by rw [List.length_take]; omega
  have h3 := pre_eq hp (i := i) (by omega)
  rw [List.take_take, Nat.min_eq_left hi] at h3
  exact ⟨h3.symm, by have := hp.length_le; omega⟩

/-- Entries, from a place that both agree upon. -/
theorem Here.layR (h : Here sz g v n F) (hk : Heard n k) (hok : MOK sz g tms S k) (hkind : k.kind = 3) (hterm : k.term = n.log.term) (hr : n.role = 0) (hb : n.log.base.toNat ≤ S) {a : Int} {xs : List Item} (ha1 : n.log.base ≤ a) (ha2 : a.toNat ≤ F.length) (ha3 : a.toNat ≤ (g.L n.log.term).length) (hag : (g.L n.log.term).take a.toNat <+: F) (hxs : xs <+: (g.L n.log.term).drop a.toNat)
    (hf : Fine (Sx.layR n k a xs).n) : Went sz g v n F tms S (Sx.layR n k a xs).n (repl1 (Sx.layR n k a xs).n k (Sx.layR n k a xs)) := by
  obtain ⟨h1, _, _, _, h5, h6⟩ := hok.app hkind
  rw [hterm] at h1 h5 h6
  have hb1 := h.fine.b1
  have hc1 := h.fine.c1
  have hkc := hk.c1
  have hT : (absN n F).term = n.log.term := rfl
  unfold Sx.layR at hf ⊢
  split
  · exact Went.still h hb fun _ _ m hm => by cases hm
  · rename_i hcl
    rw [if_neg hcl] at hf
    obtain ⟨F', its, hI, he⟩ := layGo_ok (h.su.ok.lm n.log.term) h.su.nk.lm xs n F a ⟨h.link, hb1, ha1, ha2, ha3, hag, .inl rfl⟩ hxs
    obtain ⟨a', had⟩ : ∃ a', a' = (layGo n a xs).a := ⟨_, rfl⟩
    rw [he] at hI hf ⊢
    rw [← had] at hI hf ⊢
    have ha0 := hI.ab
    have ha0 : n.log.base ≤ a' := ha0
    refine h.laid (a := a'.toNat) (n' := { ({ n with log := { n.log with items := its } } : Node) with commit := max n.commit (min k.commit a') }) (F' := F') h1 rfl rfl hr rfl rfl hf ⟨hI.link.len, hI.link.it, hI.link.bt⟩ hI.or hI.tk hI.aL ?_ hb (fun m hm => ⟨a', true, (Option.some.inj hm).symm, fun _ => Nat.le_refl _⟩) hk
    show max n.commit (min k.commit a') = n.commit ∨ ((max n.commit (min k.commit a')).toNat ≤ a'.toNat ∧ Pre tmI sz g ((g.L n.log.term).take (max n.commit (min k.commit a')).toNat) n.log.term)
    by_cases hc : min k.commit a' ≤ n.commit
    · exact .inl (by omega)
    · refine .inr ⟨by omega, ?_⟩
      exact h6.less (take_pre _ (by omega))
/-- A leader's entries. -/
theorem Here.append (h : Here sz g v n F) (hk : Heard n k) (hok : MOK sz g tms S k) (hkind : k.kind = 3) (hterm : k.term = n.log.term) (hr : n.role = 0) (hb : n.log.base.toNat ≤ S) (hf : Fine (appendR n k).n) : Went sz g v n F tms S (appendR n k).n (repl1 (appendR n k).n k (appendR n k)) := by
  obtain ⟨h1, h2, h3, h4, h5, h6⟩ := hok.app hkind
  rw [hterm] at h1 h2 h3 h4 h5 h6
  have hb1 := h.fine.b1
  have hc1 := h.fine.c1
  have hka := hk.a1
  have hlast := h.link.last
  have hlen := h.link.len
  unfold appendR at hf ⊢
  by_cases hlow : k.last < n.log.base
  · rw [if_pos hlow] at hf ⊢
    obtain ⟨hbe, hbl⟩ := h.has h1 (i := n.log.base.toNat) (by omega)
    by_cases hx : k.last + (skipI n k : Int) = n.log.base ∧ termOf k.items (skipI n k - 1) ≠ n.log.baseTerm
    · rw [if_pos hx] at hf ⊢
      exact Went.still h hb fun _ _ m hm => by cases hm
    · rw [if_neg hx] at hf ⊢
      by_cases hs : k.last + (skipI n k : Int) < n.log.base
      · rw [if_pos hs] at hf ⊢
        exact h.laid (a := n.log.base.toNat) (n' := n) (F' := F) h1 rfl rfl hr rfl rfl h.fine h.link (.inl rfl) (by rw [hbe]; exact List.take_prefix _ _) hbl (.inl rfl) hb (fun m hm => ⟨n.log.base, true, (Option.some.inj hm).symm, fun _ => Nat.le_refl _⟩) hk
      · rw [if_neg hs] at hf ⊢
        have hsk : skipI n k = min (n.log.base - k.last).toNat k.items.length := rfl
        have hse : k.last + (skipI n k : Int) = n.log.base := by omega
        rw [hse] at hf ⊢
        refine h.layR hk hok hkind hterm hr hb (Int.le_refl _) (by omega) hbl (by rw [hbe]; exact List.take_prefix _ _) ?_ hf
        have := pre_drop h4 (skipI n k)
        rw [List.drop_drop] at this
        have e : k.last.toNat + skipI n k = n.log.base.toNat := by omega
        rw [e] at this
        exact this
  · rw [if_neg hlow] at hf ⊢
    by_cases hx : (termAtN n.log k.last).2 = false ∨ (termAtN n.log k.last).1 ≠ k.lastTerm
    · rw [if_pos hx] at hf ⊢
      refine Went.still h hb fun tms' ht m hm => ?_
      obtain ⟨y, hy, rfl⟩ := repl_mem hm
      have hy := Option.some.inj hy
      rw [← hy]
      exact h.ans ht hk.f1 hk.f2 (fun h => by cases h)
    · rw [if_neg hx] at hf ⊢
      have hk2 : (termAtN n.log k.last).2 = true := by
        cases hh : (termAtN n.log k.last).2 with
        | true => rfl
        | false => exact absurd (.inl hh) hx
      have hk1 : (termAtN n.log k.last).1 = k.lastTerm := Decidable.byContradiction fun hh => hx (.inr hh)
      have hin := known_rng hk2
      have hta := h.link.term hb1 (i := k.last) hin.1 hin.2
      rw [hta] at hk1
      have hk1 : endTm tmI (F.take k.last.toNat) = k.lastTerm := hk1
      rw [h3] at hk1
      have hag := agree_at h.su.nk.lm (h.su.ok.lm n.log.term) (i := k.last.toNat) (by show _ ≤ F.length; omega) h2 hk1
      have hag : F.take k.last.toNat = (g.L n.log.term).take k.last.toNat := hag
      exact h.layR hk hok hkind hterm hr hb hin.1 (by omega) h2 (by rw [← hag]; exact List.take_prefix _ _) h4 hf
/-- A leader's snapshot. -/
theorem Here.install (h : Here sz g v n F) (hk : Heard n k) (hok : MOK sz g tms S k) (hkind : k.kind = 5) (hterm : k.term = n.log.term) (hr : n.role = 0) (hb : n.log.base.toNat ≤ S) (hf : Fine (installR n k).n) : Went sz g v n F tms S (installR n k).n (repl1 (installR n k).n k (installR n k)) := by
  obtain ⟨h1, h2, h3, h4, h5⟩ := hok.ins hkind
  rw [hterm] at h1 h2 h3 h4
  have hb1 := h.fine.b1
  have hc1 := h.fine.c1
  have hka := hk.a1
  have hlast := h.link.last
  have hlen := h.link.len
  unfold installR at hf ⊢
  by_cases hnew : k.last > n.commit
  · rw [if_pos hnew] at hf ⊢
    have hll : ((g.L n.log.term).take k.last.toNat).length = k.last.toNat := by rw [List.length_take]; omega
    have hcom : ∀ c : Int, c = k.last → c = n.commit ∨ (c.toNat ≤ k.last.toNat ∧ Pre tmI sz g ((g.L n.log.term).take c.toNat) n.log.term) := fun c hc => .inr ⟨by omega, by rw [hc]; exact h4⟩
    by_cases hx : (termAtN n.log k.last).2 = true ∧ (termAtN n.log k.last).1 = k.lastTerm
    · have hin := known_rng hx.1
      have hta := h.link.term hb1 (i := k.last) hin.1 hin.2
      have hk1 : endTm tmI (F.take k.last.toNat) = endTm tmI ((g.L n.log.term).take k.last.toNat) := by
        have := hx.2
        rw [hta, h3] at this
        exact this
      have hag : F.take k.last.toNat = (g.L n.log.term).take k.last.toNat := agree_at h.su.nk.lm (h.su.ok.lm n.log.term) (by show _ ≤ F.length; omega) h2 hk1
      have hrest : restL n k = F.drop k.last.toNat := by
        unfold restL
        rw [if_pos hx, ← h.link.it, List.drop_drop]
        congr 1
        omega
      refine h.laid (a := k.last.toNat) (n' := bookN n k (restL n k)) (F' := F) h1 rfl rfl hr rfl rfl hf ⟨?_, hrest.symm, ?_⟩ (.inl rfl) (by rw [← hag]; exact List.take_prefix _ _) h2 (hcom _ rfl) h5 (fun m hm => ⟨k.last, true, (Option.some.inj hm).symm, fun _ => Nat.le_refl _⟩) hk
      · show (F.length : Int) = k.last + ((restL n k).length : Int)
        rw [hrest, List.length_drop]; omega
      · show k.lastTerm = endTm tmI (F.take k.last.toNat)
        rw [hag]; exact h3
    · have hrest : restL n k = [] := by unfold restL; rw [if_neg hx]
      refine h.laid (a := k.last.toNat) (n' := bookN n k (restL n k)) (F' := (g.L n.log.term).take k.last.toNat) h1 rfl rfl hr rfl rfl hf ⟨?_, ?_, ?_⟩ (.inr ⟨List.take_prefix _ _, fun p hp1 hp2 => ?_⟩) (List.prefix_refl _) h2 (hcom _ rfl) h5 (fun m hm => ⟨k.last, true, (Option.some.inj hm).symm, fun _ => Nat.le_refl _⟩) hk
      · show ((((g.L n.log.term).take k.last.toNat).length : Nat) : Int) = k.last + ((restL n k).length : Int)
        rw [hrest, hll]
        show (k.last.toNat : Int) = k.last + ((0 : Nat) : Int)
        omega
      · show ((g.L n.log.term).take k.last.toNat).drop k.last.toNat = restL n k
        rw [hrest, List.drop_eq_nil_of_le (by omega)]
      · show k.lastTerm = endTm tmI (((g.L n.log.term).take k.last.toNat).take k.last.toNat)
        rw [List.take_take, Nat.min_self]; exact h3
      · by_cases hpl : p.length ≤ k.last.toNat
        · exact pre_two hp2 (List.take_prefix _ _) (by omega)
        · exfalso
          -- then the snapshot's last entry would be known
          have hpF := hp1.length_le
          have e1 := pre_eq hp1 (i := k.last.toNat) (by omega)
          have e2 := pre_eq hp2 (i := k.last.toNat) (by omega)
          have hta := h.link.term hb1 (i := k.last) (by omega) (by omega)
          refine hx ⟨by rw [hta], ?_⟩
          rw [hta]
          show endTm tmI (F.take k.last.toNat) = k.lastTerm
          rw [← e1, e2, h3]
  · rw [if_neg hnew] at hf ⊢
    obtain ⟨hbe, hbl⟩ := h.has h1 (i := n.commit.toNat) (Nat.le_refl _)
    exact h.laid (a := n.commit.toNat) (n' := n) (F' := F) h1 rfl rfl hr rfl rfl h.fine h.link (.inl rfl) (by rw [hbe]; exact List.take_prefix _ _) hbl (.inl rfl) hb (fun m hm => ⟨n.commit, true, (Option.some.inj hm).symm, fun _ => Nat.le_refl _⟩) hk
end lead
end Go.Proofs.Ytjpjiniclibgkaa.Sx

namespace Go.Proofs.Ytjpjiniclibgkaa.Sx
open Go Safe

section all
variable {sz v : Nat} {g g' : Gh Item} {n n' : Node} {F F' : List Item} {tms : Nat → Int} {S : Nat} {k : Msg}
theorem repl_same {a b : Node} (h1 : a.me = b.me) (h2 : a.log.term = b.log.term) (k : Msg) (r : HeardR) : repl1 a k r = repl1 b k r := by
  unfold repl1
  split
  · unfold sayN; rw [h1, h2]
  · rfl
theorem Here.pos (h : Here sz g v n F) (hr : n.role = 2) : 0 < n.log.term := by
  obtain ⟨h1, _⟩ := h.lead hr
  refine Classical.byContradiction fun hc => ?_
  rw [h.su.ps _ (by omega)] at h1
  cases h1
/-- A message of this node's term, or an earlier one. -/
theorem Here.heard (h : Here sz g v n F) (hk : Heard n k) (hok : MOK sz g tms S k) (ht : k.term ≤ n.log.term) (hb : n.log.base.toNat ≤ S) : Went sz g v n F tms S (heardK n k).n (heardK n k).ks := by
  have hf := h.fine
  unfold heardK
  by_cases h1 : k.kind = 1
  · rw [if_pos h1]; exact h.ask hk hok h1 hb
  rw [if_neg h1]
  by_cases h2 : k.kind = 2
  · rw [if_pos h2]; exact h.vote hk hok h2 hb
  rw [if_neg h2]
  by_cases h4 : k.kind = 4
  · rw [if_pos h4]; exact h.got hk hok h4 hb
  rw [if_neg h4]
  unfold leaderS
  by_cases hlo : k.term < n.log.term
  · rw [if_pos hlo]
    refine Went.still h hb fun tms' ht' m hm => ?_
    obtain rfl := List.mem_singleton.1 hm
    exact h.ans ht' hk.f1 hk.f2 (fun h => by cases h)
  rw [if_neg hlo]
  by_cases hro : n.role = 2
  · rw [if_pos hro]
    exact Went.still h hb fun _ _ m hm => by cases hm
  rw [if_neg hro]
  have hff := follow_fine hf hk hlo
  obtain ⟨hm, hh, hterm, hrole, hbase⟩ := h.follow (T := k.term) (l := k.frm) (by omega) hff
  have hkf : Heard (followN n k.term k.frm) k := ⟨hk.to, hk.f1, hk.f2, hk.f3, hk.k1, hk.k2, hk.t1, hk.t2, hk.a1, hk.a2, hk.b1, hk.b2, hk.c1, hk.c2, hk.l, hk.up⟩
  have hb2 : (followN n k.term k.frm).log.base.toNat ≤ S := by rw [hbase]; exact hb
  have hok2 : MOK sz g (fun w => if w = v then (followN n k.term k.frm).log.term else tms w) S k := by
    refine ⟨hok.f1, hok.f2, hok.t1, hok.t2, ?_, hok.ask, hok.vote, hok.app, hok.got, hok.ins⟩
    show k.term ≤ if k.frm.toNat = v then _ else tms k.frm.toNat
    split
    · omega
    · exact hok.tl
  refine Went.first hm ?_
  by_cases h3 : k.kind = 3
  · rw [if_pos h3]
    obtain ⟨hfa, hw, ht3, _⟩ := append_fine hff hkf hterm.symm (follow_zero _ _ _)
    show Went sz g v _ F _ S (appendR (followN n k.term k.frm) k).n (repl1 (followN n k.term k.frm) k (appendR (followN n k.term k.frm) k))
    rw [repl_same hw.me.symm ht3.symm]
    exact hh.append hkf hok2 h3 hterm.symm hrole hb2 hfa
  · rw [if_neg h3]
    have h5 : k.kind = 5 := by have := hk.k1; have := hk.k2; omega
    obtain ⟨hfa, hw, ht3, _⟩ := install_fine hff hkf hterm.symm (follow_zero _ _ _)
    show Went sz g v _ F _ S (installR (followN n k.term k.frm) k).n (repl1 (followN n k.term k.frm) k (installR (followN n k.term k.frm) k))
    rw [repl_same hw.me.symm ht3.symm]
    exact hh.install hkf hok2 h5 hterm.symm hrole hb2 hfa
/-- Step. -/
theorem Here.step (h : Here sz g v n F) (hok : MOK sz g tms S k) (hb : n.log.base.toNat ≤ S) (he : (stepR n k).e = 0) : Went sz g v n F tms S (stepR n k).n (stepR n k).ks := by
  by_cases hg : goodB n = true ∧ soundB n k = true
  · have hk := heard_iff.1 hg.2
    have hr : stepR n k = heardK (turnN n k) k := by unfold stepR; rw [if_pos hg]
    rw [hr]
    have hft := turn_fine h.fine hk
    have hkt := heard_turn rfl hk
    have hterm := turnN_term (n := n) (k := k)
    by_cases hc : k.term > n.log.term
    · have e : turnN n k = followN n k.term (-1) := by unfold turnN; rw [if_pos hc]
      rw [e] at hft hkt hterm ⊢
      obtain ⟨hm, hh, hterm2, _, hbase⟩ := h.follow (T := k.term) (l := -1) (by omega) hft
      refine Went.first hm (hh.heard hkt ?_ (by omega) (by rw [hbase]; exact hb))
      refine ⟨hok.f1, hok.f2, hok.t1, hok.t2, ?_, hok.ask, hok.vote, hok.app, hok.got, hok.ins⟩
      show k.term ≤ if k.frm.toNat = v then _ else tms k.frm.toNat
      split
      · omega
      · exact hok.tl
    · have e : turnN n k = n := by unfold turnN; rw [if_neg hc]
      rw [e] at hkt hterm ⊢
      exact h.heard hkt hok hterm hb
  · unfold stepR at he
    rw [if_neg hg] at he
    cases he
/-- Beat. -/
theorem Here.beat (h : Here sz g v n F) (hb : n.log.base.toNat ≤ S) : Went sz g v n F tms S (beatR n).n (beatR n).ks := by
  unfold beatR
  rw [if_pos (fine_iff.2 h.fine)]
  split
  · rename_i hr
    exact Went.still h hb fun tms' ht m hm => h.feedAll hr ht hb m hm
  · exact Went.still h hb fun _ _ m hm => by cases hm
/-- Propose. -/
theorem Here.propose (h : Here sz g v n F) (hb : n.log.base.toNat ≤ S) {e : Entry} (he : (proposeR n e).e = 0) : Went sz g v n F tms S (proposeR n e).n (proposeR n e).ks := by
  have hf := h.fine
  unfold proposeR at he ⊢
  by_cases hg : goodB n = true ∧ validB e = true
  · rw [if_pos hg] at he ⊢
    by_cases hr : n.role = 2
    · rw [if_pos hr] at he ⊢
      by_cases hl : n.log.items.length < 256
      · rw [if_pos hl]
        obtain ⟨g', hm, hlg⟩ := h.lay hr (h.pos hr) hg.2 hl
        have hlk := link_put h.link hf (e := e)
        exact Went.of h hm (fun _ _ _ h => h.elim) (put_fine hf hg.2 hl) rfl rfl ⟨hlk.len, hlk.it, hlk.bt⟩ hb hlg fun tms' ht hh m hm => hh.feedAll hr ht hb m hm
      · rw [if_neg hl] at he; cases he
    · rw [if_neg hr] at he; cases he
  · rw [if_neg hg] at he; cases he
theorem cut_fine (hf : Fine n) (hK : F.length ≤ 1000) {i : Int} {b : ByteArray} (hl : lastI n = (F.length : Int)) (h1 : n.log.base < i) (h2 : i ≤ n.commit) : Fine (cutR n i b) := by
  have hb1 := hf.b1; have hc2 := hf.c2; have hl1 := hf.l; have hrg := hf.rg
  have hli : lastI n = n.log.base + n.log.items.length := rfl
  have hx := List.getElem?_eq_getElem (show (i - n.log.base - 1).toNat < n.log.items.length by omega)
  obtain ⟨x, hxd⟩ : ∃ x, x = n.log.items[(i - n.log.base - 1).toNat]'(by omega) := ⟨_, rfl⟩
  rw [← hxd] at hx
  have hta : (termAtN n.log i).1 = x.term := by rw [term_at h1 hx]
  obtain ⟨g1, g2⟩ := chain_drop hf.ris.1 hx
  have e : (i - n.log.base - 1).toNat + 1 = (i - n.log.base).toNat := by omega
  rw [e] at g1 g2
  have hxt := (chain_le hf.ris.1 hx).1
  have hlast : lastI (cutR n i b) = lastI n := by
    show i + ((n.log.items.drop (i - n.log.base).toNat).length : Int) = _
    rw [List.length_drop]; omega
  have hbt := hf.bt
  refine ⟨hf.s1, hf.s2, hf.m1, hf.m2, hf.t1, hf.t2, hf.v1, hf.v2, by show 0 ≤ i; omega, by show i ≤ _; omega, by show 0 ≤ (termAtN n.log i).1; rw [hta]; omega, by show (n.log.items.drop _).length ≤ 256; rw [List.length_drop]; omega, ⟨?_, ?_⟩, hf.r1, hf.r2, hf.d1, hf.d2, h2, by rw [hlast]; exact hc2, hf.w1, hf.w2, ⟨fun j hj => ?_, fun j hj => ?_⟩⟩
  · show chainB (termAtN n.log i).1 (n.log.items.drop (i - n.log.base).toNat) = true
    rw [hta]; exact g1
  · show endT (termAtN n.log i).1 (n.log.items.drop (i - n.log.base).toNat) ≤ n.log.term
    rw [hta, g2]; exact hf.ris.2
  · rw [hlast]; exact hrg.nx j hj
  · rw [hlast]; exact hrg.mt j hj
theorem one_bit {v w : Nat} (hv : v < 7) (hw : w < 7) : bitN (IntKind.i64.wrap (1 * 2 ^ (min v IntKind.i64.bits))) w = (w == v) := by
  have key : ((List.range 7).all fun v => (List.range 7).all fun w => bitN (IntKind.i64.wrap (1 * 2 ^ (min v IntKind.i64.bits))) w == (w == v)) = true := by kernel_rfl
  have := List.all_eq_true.1 (List.all_eq_true.1 key v (List.mem_range.2 hv)) w (List.mem_range.2 hw)
  exact eq_of_beq this
/-- Timeout. -/
theorem Here.timeout (h : Here sz g v n F) (hb : n.log.base.toNat ≤ S) : Went sz g v n F tms S (timeoutR n).n (timeoutR n).ks := by
  have hf := h.fine
  have hvl := h.vl
  have hsz := h.size
  have hme := h.me
  have hs1 := hf.s1; have hs2 := hf.s2
  unfold timeoutR
  rw [if_pos (fine_iff.2 hf)]
  by_cases hno : n.role = 2 ∨ n.log.term ≥ 1099511627776
  · rw [if_pos hno]
    exact Went.still h hb fun _ _ m hm => by cases hm
  rw [if_neg hno]
  have htl : n.log.term < 1099511627776 := by omega
  have hcf := cand_fine hf htl
  have hlog : (followN n (n.log.term + 1) (-1)).log = { n.log with term := n.log.term + 1, vote := -1 } := by show (if n.log.term + 1 > n.log.term then _ else _) = _; rw [if_pos (by omega)]
  have hlog2 : (candN n).log = { n.log with term := n.log.term + 1, vote := n.me } := by show { (followN n (n.log.term + 1) (-1)).log with vote := n.me } = _; rw [hlog]
  have hmn : n.me.toNat = v := by rw [hme]; exact Int.toNat_natCast v
  obtain ⟨g1, hm1, hC, hL1⟩ := h.su.cand (a' := absN (candN n) F) rfl (by show (candN n).log.term = n.log.term + 1; rw [hlog2]) (by
    show (if (candN n).log.vote = -1 then none else some (candN n).log.vote.toNat) = some v
    rw [hlog2]
    show (if n.me = -1 then none else some n.me.toNat) = some v
    rw [if_neg (by omega), hmn]) rfl (fun w hw hwb => by
    have hwb : bitN (IntKind.i64.wrap (1 * 2 ^ (min n.me.toNat IntKind.i64.bits))) w = true := hwb
    rw [hmn, one_bit (by omega) (by omega)] at hwb
    exact eq_of_beq hwb) rfl
  have hlk : Link (candN n) F := ⟨by rw [hlog2]; exact h.link.len, by rw [hlog2]; exact h.link.it, by rw [hlog2]; exact h.link.bt⟩
  have hh : Here sz g1 v (candN n) F := h.next hm1 hcf rfl rfl hlk
  have hbase : (candN n).log.base = n.log.base := by rw [hlog2]
  have hT : (absN (candN n) F).term = (candN n).log.term := rfl
  rw [hT] at hC
  -- what it asks
  have hasks : ∀ tms' : Nat → Int, tms' v = (candN n).log.term → ∀ m ∈ asksOf n, MOK sz g1 tms' S m := fun tms' ht m hm => by
    obtain ⟨i, hi, rfl⟩ := List.mem_map.1 hm
    have hi2 := (others_mem hi).1
    obtain ⟨c1, c2, c3, _⟩ := hh.su.nk.ca rfl
    have c3 : ∀ x ∈ F, tmI x < (candN n).log.term := c3
    refine hh.mok ht (Int.natCast_nonneg _) (by show (i : Int) < n.size; omega) (fun _ => ?_) (fun hk => absurd hk (by show ¬ (1 : Int) = 2; decide)) (fun hk => absurd hk (by show ¬ (1 : Int) = 3; decide)) (fun hk => absurd hk (by show ¬ (1 : Int) = 4; decide)) fun hk => absurd hk (by show ¬ (1 : Int) = 5; decide)
    have hln := h.link.lastN hf
    rw [hC]
    refine ⟨?_, by show (lastN n.log).1 = _; rw [hln]; rfl, by show (lastN n.log).2 = _; rw [hln]; rfl, hh.su.nk.lm, hh.su.nk.up, c3⟩
    have := hh.su.nk.vt
    have this : g1.V v (candN n).log.term = if (candN n).log.vote = -1 then none else some (candN n).log.vote.toNat := this
    rw [this]
    have hvn : (candN n).log.vote = n.me := by rw [hlog2]
    rw [hvn, if_neg (by omega), hmn]
  unfold leadS
  split
  · rename_i hen
    have hpos : 0 < (candN n).log.term := by rw [hlog2]; show 0 < n.log.term + 1; have := hf.t1; omega
    obtain ⟨g2, F', hm2, hl2, hlg⟩ := hh.win rfl hen hpos
    have hs : (winN (candN n)).size = (candN n).size ∧ (winN (candN n)).me = (candN n).me ∧ (winN (candN n)).log.base = (candN n).log.base ∧ (winN (candN n)).role = 2 ∧ (winN (candN n)).log.term = (candN n).log.term := by unfold winN; split <;> exact ⟨rfl, rfl, rfl, rfl, rfl⟩
    refine Went.of h (hm1.trans hm2 hs.2.2.2.2) (fun _ _ _ hx => (hx.elim (fun z => z) fun z => z).elim) (win_fine hcf) hs.2.1 hs.1 hl2 (by rw [hs.2.2.1, hbase]; exact hb) (fun K k1 k2 => hlg K (fun t => by rw [hL1]; exact k1 t) k2) fun tms' ht hh2 m hm => ?_
    rcases List.mem_append.1 hm with hm | hm
    · exact (hasks tms' (by rw [ht]; exact hs.2.2.2.2) m hm).grow hm2.gr hm1.su.ok (fun _ _ => Int.le_refl _) (Nat.le_refl _)
    · exact hh2.feedAll hs.2.2.2.1 ht (by rw [hs.2.2.1, hbase]; exact hb) m hm
  · refine Went.of h hm1 (fun _ _ _ h => h.elim) hcf rfl rfl hlk (by rw [hbase]; exact hb) (.same hL1 (.inl (Nat.le_refl _))) fun tms' ht _ m hm => ?_
    rcases List.mem_append.1 hm with hm | hm
    · exact hasks tms' ht m hm
    · cases hm
/-- Compact. -/
theorem Here.compact (h : Here sz g v n F) (hK : F.length ≤ 1000) (hc : n.commit.toNat ≤ S) {i : Int} {b : ByteArray} (he : (compactR n i b).e = 0) : Went sz g v n F tms S (compactR n i b).n [] := by
  have hf := h.fine
  have hb1 := hf.b1
  have hc1 := hf.c1; have hc2 := hf.c2
  have hlast := h.link.last
  have hlen := h.link.len
  unfold compactR at he ⊢
  by_cases hg : goodB n = true ∧ n.log.base < i ∧ i ≤ n.commit
  · rw [if_pos hg]
    obtain ⟨_, h1, h2⟩ := hg
    have hta := h.link.term hb1 (i := i) (by omega) (by omega)
    have hd : n.log.items.drop (i - n.log.base).toNat = F.drop i.toNat := by
      rw [← h.link.it, List.drop_drop]
      congr 1
      omega
    have hlk : Link (cutR n i b) F := by
      refine ⟨?_, hd.symm, ?_⟩
      · show (F.length : Int) = i + ((n.log.items.drop (i - n.log.base).toNat).length : Int)
        rw [hd, List.length_drop]; omega
      · show (termAtN n.log i).1 = _
        rw [hta]; rfl
    have hm : Moved tmI sz g g v (absN n F) (absN (cutR n i b) F) (fun _ => False) := Moved.still h.su h.su.nk (Int.le_refl _)
    exact Went.of h hm (fun _ _ _ h => h.elim) (cut_fine hf hK hlast h1 h2) rfl rfl hlk (by show i.toNat ≤ S; omega) (.same rfl (.inl (Nat.le_refl _))) fun _ _ _ m hm => by cases hm
  · rw [if_neg hg] at he; cases he
end all
end Go.Proofs.Ytjpjiniclibgkaa.Sx

namespace Go.Proofs.Ytjpjiniclibgkaa.Sx
open Go Safe

section
variable {sz v : Nat} {g g' : Gh Item} {n n' : Node} {F F' : List Item} {tms : Nat → Int} {S : Nat} {k : Msg}
/-- A node is begun anew, with its log. -/
theorem Here.new (h : Here sz g v n F) (hb : n.log.base.toNat ≤ S) (he : (newR n.me n.size n.log).e = 0) : Went sz g v n F tms S (newR n.me n.size n.log).n [] := by
  have hf := h.fine
  have hc1 := hf.c1; have hb1 := hf.b1
  have hs1 := hf.s1
  have hp : (0 : Int) < 2 ^ n.size.toNat := Int.pow_pos (by decide)
  have hli : ∀ a : Node, a.log = n.log → lastI a = lastI n := fun a ha => by unfold lastI; rw [ha]
  have hll : n.log.base ≤ lastI n := by have := hf.c2; omega
  unfold newR at he ⊢
  split
  · obtain ⟨n', hn'⟩ : ∃ n' : Node, n' = ⟨n.me, n.size, n.log, 0, -1, n.log.base, 0, fun _ => 0, fun _ => 0⟩ := ⟨_, rfl⟩
    have hfine : Fine n' := by
      rw [hn']
      refine ⟨hf.s1, hf.s2, hf.m1, hf.m2, hf.t1, hf.t2, hf.v1, hf.v2, hf.b1, hf.b2, hf.bt, hf.l, hf.ris, by show (0 : Int) ≤ 0; omega, by show (0 : Int) ≤ 2; omega, by show (-1 : Int) ≤ -1; omega, by show (-1 : Int) < n.size; omega, Int.le_refl _, hll, by show (0 : Int) ≤ 0; omega, hp, ⟨fun j _ => ?_, fun j _ => ?_⟩⟩
      · show (0 : Int) ≤ 0 ∧ (0 : Int) ≤ lastI n + 1; omega
      · show (0 : Int) ≤ 0 ∧ (0 : Int) ≤ lastI n; omega
    rw [← hn']
    have hm : Moved tmI sz g g v (absN n F) (absN n' F) (fun _ => False) := by
      refine h.su.down rfl (by rw [hn']; exact Int.le_refl _) ?_ (by rw [hn']; rfl) (by rw [hn']; show n.log.base.toNat ≤ n.commit.toNat; omega)
      rw [hn']
      show (if n.log.vote = -1 then none else some n.log.vote.toNat) = if n.log.term < n.log.term then none else _
      rw [if_neg (Int.lt_irrefl _)]; rfl
    exact Went.of h hm (fun _ _ _ h => h.elim) hfine (by rw [hn']) (by rw [hn']) (by rw [hn']; exact ⟨h.link.len, h.link.it, h.link.bt⟩) (by rw [hn']; exact hb) (.same rfl (.inl (Nat.le_refl _))) fun _ _ _ m hm => by cases hm
  · rename_i hc
    rw [if_neg hc] at he
    cases he
/-! ### the world -/
/-- What was seen committed, and in which terms. -/
structure Seen (sz : Nat) (g : Gh Item) (sure : List Item) (since : List Int) : Prop where
  len : since.length = sure.length
  pre : ∀ j s, since[j]? = some s → Pre tmI sz g (sure.take (j + 1)) s
/-- The world, as it is thought of: K bounds the logs. -/
structure WI (sz K : Nat) (g : Gh Item) (ns : Nat → Node) (Fs : Nat → List Item) (under : List Msg) (S : Nat) : Prop where
  w : Safe.World tmI sz g fun v => absN (ns v) (Fs v)
  fine : ∀ v, v < sz → Fine (ns v) ∧ (ns v).me = (v : Int) ∧ (ns v).size = (sz : Int) ∧ Link (ns v) (Fs v)
  ms : ∀ m ∈ under, MOK sz g (fun v => (ns v).log.term) S m
  base : ∀ v, v < sz → (ns v).log.base.toNat ≤ S
  lenL : ∀ t, (g.L t).length ≤ K
  lenF : ∀ v, v < sz → (Fs v).length ≤ K
theorem WI.here {K : Nat} {ns : Nat → Node} {Fs : Nat → List Item} {under : List Msg} (h : WI sz K g ns Fs under S) (hv : v < sz) : Here sz g v (ns v) (Fs v) := by
  obtain ⟨h1, h2, h3, h4⟩ := h.fine v hv
  exact ⟨h1, h2, h3, h4, h.w.sure hv⟩
def upd {β : Type} (f : Nat → β) (v : Nat) (x : β) : Nat → β := fun w => if w = v then x else f w
theorem upd_self {β : Type} (f : Nat → β) (v : Nat) (x : β) : upd f v x v = x := if_pos rfl
theorem upd_other {β : Type} (f : Nat → β) {v w : Nat} (x : β) (h : w ≠ v) : upd f v x w = f w := if_neg h
/-- A node's turn moves the world. -/
theorem WI.move {K : Nat} {ns : Nat → Node} {Fs : Nat → List Item} {under under' : List Msg} (h : WI sz K g ns Fs under S) (hv : v < sz) {ks : List Msg} (hw : Went sz g v (ns v) (Fs v) (fun v => (ns v).log.term) S n' ks) (hu : ∀ m ∈ under', m ∈ under ∨ m ∈ ks) :
    ∃ g' F', WI sz (K + 1) g' (upd ns v n') (upd Fs v F') under' S ∧ (∀ sure since, Seen sz g sure since → Seen sz g' sure since) ∧ ∀ t c, g.ld t = some c → g'.ld t = some c := by
  obtain ⟨g', F', asked, hm, hask, hh, hks, hb, hlg⟩ := hw
  have hT : (absN n' F').term = n'.log.term := rfl
  obtain ⟨k1, k2⟩ := hlg K h.lenL (h.lenF v hv)
  have htms : ∀ w, w < sz → (ns w).log.term ≤ (upd ns v n' w).log.term := fun w _ => by
    by_cases hwv : w = v
    · subst hwv
      rw [upd_self]; exact hm.tl
    · rw [upd_other _ _ hwv]; exact Int.le_refl _
  refine ⟨g', F', ⟨?_, fun w hw => ?_, fun m hmm => ?_, fun w hw => ?_, k1, fun w hw => ?_⟩, fun sure since hs => ⟨hs.len, fun j s hj => hm.gr.preOf h.w.ok (hs.pre j s hj)⟩, fun t c hc => hm.gr.ldk t c hc⟩
  · have := h.w.move hv hm (fun w hw hwv ha => hask w hw hwv ha)
    have e : (fun w => if w = v then absN n' F' else absN (ns w) (Fs w)) = fun w => absN (upd ns v n' w) (upd Fs v F' w) := by
      funext w
      by_cases hwv : w = v
      · subst hwv; rw [if_pos rfl, upd_self, upd_self]
      · rw [if_neg hwv, upd_other _ _ hwv, upd_other _ _ hwv]
    rw [e] at this
    exact this
  · by_cases hwv : w = v
    · subst hwv
      rw [upd_self, upd_self]
      exact ⟨hh.fine, hh.me, hh.size, hh.link⟩
    · rw [upd_other _ _ hwv, upd_other _ _ hwv]
      exact h.fine w hw
  · rcases hu m hmm with h1 | h1
    · exact (h.ms m h1).grow hm.gr h.w.ok htms (Nat.le_refl _)
    · have := hks m h1
      have e : (fun w => if w = v then n'.log.term else (ns w).log.term) = fun w => (upd ns v n' w).log.term := by
        funext w
        by_cases hwv : w = v
        · subst hwv; rw [if_pos rfl, upd_self]
        · rw [if_neg hwv, upd_other _ _ hwv]
      rw [← e]
      exact this
  · by_cases hwv : w = v
    · subst hwv; rw [upd_self]; exact hb
    · rw [upd_other _ _ hwv]; exact h.base w hw
  · by_cases hwv : w = v
    · subst hwv; rw [upd_self]; exact k2
    · rw [upd_other _ _ hwv]; have := h.lenF w hw; omega
/-- Messages that are lost, or were said before; a world that saw more. -/
theorem WI.less {K K' : Nat} {ns : Nat → Node} {Fs : Nat → List Item} {under under' : List Msg} {S' : Nat} (h : WI sz K g ns Fs under S) (hu : ∀ m ∈ under', m ∈ under) (hS : S ≤ S') (hK : K ≤ K') : WI sz K' g ns Fs under' S' :=
  ⟨h.w, h.fine, fun m hm => (h.ms m (hu m hm)).grow (v := 0) (T := 0) (.refl _ _ _) h.w.ok (fun _ _ => Int.le_refl _) hS, fun v hv => Nat.le_trans (h.base v hv) hS, fun t => Nat.le_trans (h.lenL t) hK, fun v hv => Nat.le_trans (h.lenF v hv) hK⟩
/-- An entry that is seen committed again is the same. -/
theorem Seen.same {sure : List Item} {since : List Int} (hs : Seen sz g sure since) (h : Here sz g v n F) {i : Nat} (h1 : i < sure.length) (h2 : i < n.commit.toNat) : sure[i]? = F[i]? := by
  obtain ⟨hc, hp⟩ := h.com
  obtain ⟨s, hs1⟩ : ∃ s, since[i]? = some s := ⟨_, List.getElem?_eq_getElem (by have := hs.len; omega)⟩
  have hq := hs.pre i s hs1
  have hl1 : (sure.take (i + 1)).length = i + 1 := by rw [List.length_take]; omega
  have hl2 : (F.take n.commit.toNat).length = n.commit.toNat := by rw [List.length_take]; omega
  have := Pre.agree h.su.ok hq hp (by omega)
  have hx := List.getElem?_eq_getElem h1
  have hy : (sure.take (i + 1))[i]? = some sure[i] := by rw [List.getElem?_take, if_pos (by omega)]; exact hx
  have hz := pre_get this hy
  rw [List.getElem?_take, if_pos h2] at hz
  rw [hx, hz]
/-- An entry that is seen committed first. -/
theorem Seen.push {sure : List Item} {since : List Int} (hs : Seen sz g sure since) (h : Here sz g v n F) {x : Item} (hx : F[sure.length]? = some x) (h2 : sure.length < n.commit.toNat) : Seen sz g (sure ++ [x]) (since ++ [n.log.term]) := by
  obtain ⟨hc, hp⟩ := h.com
  have hall : F.take sure.length = sure := by
    apply List.ext_getElem?
    intro i
    rw [List.getElem?_take]
    split
    · rename_i hi; exact (hs.same h hi (by omega)).symm
    · rename_i hi; rw [List.getElem?_eq_none (by omega)]
  have hnew : sure ++ [x] = F.take (sure.length + 1) := by rw [take_snoc' hx, hall]
  have hlen := hs.len
  refine ⟨by rw [List.length_append, List.length_append, hlen]; rfl, fun j s hj => ?_⟩
  by_cases hjl : j < since.length
  · rw [List.getElem?_append_left hjl] at hj
    have := hs.pre j s hj
    rwa [List.take_append_of_le_length (by omega)]
  · rw [List.getElem?_append_right (by omega)] at hj
    have hj0 : j = since.length := by
      have := (List.getElem?_eq_some_iff.1 hj).1
      have e : [n.log.term].length = 1 := rfl
      omega
    subst hj0
    rw [Nat.sub_self] at hj
    cases hj
    rw [hnew, hlen, List.take_take, Nat.min_self]
    exact hp.less (take_pre _ (by omega))
/-- A leader has all that was seen committed in earlier terms. -/
theorem Seen.leader {sure : List Item} {since : List Int} (hs : Seen sz g sure since) (h : Here sz g v n F) (hr : n.role = 2) {i : Nat} {s : Int} (hi : since[i]? = some s) (hlt : s < n.log.term) : i < F.length ∧ sure[i]? = F[i]? := by
  obtain ⟨hl, hF, _⟩ := h.lead hr
  have hp := Pre.leader h.su.ok (hs.pre i s hi) (u := n.log.term) (by omega) (by rw [hl]; rfl)
  rw [← hF] at hp
  have hil : i < sure.length := by have := (List.getElem?_eq_some_iff.1 hi).1; have := hs.len; omega
  have hl1 : (sure.take (i + 1)).length = i + 1 := by rw [List.length_take]; omega
  have hx := List.getElem?_eq_getElem hil
  have hy : (sure.take (i + 1))[i]? = some sure[i] := by rw [List.getElem?_take, if_pos (by omega)]; exact hx
  have hz := pre_get hp hy
  exact ⟨(List.getElem?_eq_some_iff.1 hz).1, by rw [hx, hz]⟩
/-- What a log tells of an entry. -/
theorem Link.tells (h : Link n F) (hb : 0 ≤ n.log.base) {i : Nat} (h1 : n.log.base.toNat ≤ i) (h2 : i < F.length) : n.log.base < (i : Int) + 1 ∧ (i : Int) + 1 - n.log.base ≤ n.log.items.length ∧ n.log.items[((i : Int) + 1 - n.log.base - 1).toNat]? = F[i]? := by
  have hl := h.len
  refine ⟨by omega, by omega, ?_⟩
  rw [← h.item h1]
  congr 1
  omega
/-- The world at its beginning. -/
theorem WI.begin (h1 : 1 ≤ sz) (h7 : sz ≤ 7) {ns : Nat → Node} (hns : ∀ v, v < sz → ns v = ⟨(v : Int), (sz : Int), ⟨0, -1, 0, 0, ByteArray.empty, []⟩, 0, -1, 0, 0, fun _ => 0, fun _ => 0⟩) : ∃ g : Gh Item, WI sz 0 g ns (fun _ => []) [] 0 ∧ Seen sz g [] [] := by
  refine ⟨⟨fun _ => [], fun _ => none, fun _ _ => [], fun _ _ => none, fun _ _ => 0⟩, ?_, ⟨rfl, fun j s hj => by cases hj⟩⟩
  have ok : GOK tmI sz (⟨fun _ => [], fun _ => none, fun _ _ => [], fun _ _ => none, fun _ _ => 0⟩ : Gh Item) :=
    ⟨fun _ i x hx => (by cases hx), fun _ i j x y _ hx => (by cases hx), fun _ _ h => (by cases h), fun _ _ h => (by cases h), fun _ _ => Nat.le_refl _, fun _ _ => rfl⟩
  refine ⟨⟨ok, fun _ _ _ h => (by cases h), fun _ _ => rfl, fun v hv => ?_⟩, fun v hv => ?_, fun m hm => (by cases hm), fun v hv => ?_, fun _ => Nat.le_refl _, fun _ _ => Nat.le_refl _⟩
  · rw [hns v hv]
    exact ⟨⟨fun i x hx => (by cases hx), fun i j x y _ hx => (by cases hx), rfl, fun _ _ => rfl, fun _ _ => rfl, fun _ _ h => (by cases h), fun _ h => (by cases h), fun h => absurd h (by show ¬ (0 : Nat) = 1; decide), fun h => absurd h (by show ¬ (0 : Nat) = 2; decide), fun t i h0 hi => absurd hi (by show ¬ i ≤ 0; omega), Nat.le_refl _, .nil⟩, Int.le_refl _⟩
  · rw [hns v hv]
    have hp : (0 : Int) < 2 ^ ((sz : Int).toNat) := Int.pow_pos (by decide)
    refine ⟨⟨by show (1 : Int) ≤ sz; omega, by show (sz : Int) ≤ 7; omega, by show (0 : Int) ≤ v; omega, by show (v : Int) < sz; omega, by show (0 : Int) ≤ 0; omega, by show (0 : Int) ≤ 1099511627776; omega, by show (-1 : Int) ≤ -1; omega, by show (-1 : Int) < sz; omega, by show (0 : Int) ≤ 0; omega, by show (0 : Int) ≤ 1099511627776; omega, by show (0 : Int) ≤ 0; omega, Nat.zero_le _, ⟨rfl, by show (0 : Int) ≤ 0; omega⟩, by show (0 : Int) ≤ 0; omega, by show (0 : Int) ≤ 2; omega, by show (-1 : Int) ≤ -1; omega, by show (-1 : Int) < sz; omega, by show (0 : Int) ≤ 0; omega, by show (0 : Int) ≤ 0 + ((0 : Nat) : Int); omega, by show (0 : Int) ≤ 0; omega, hp, ⟨fun j _ => ?_, fun j _ => ?_⟩⟩, rfl, rfl, ⟨rfl, rfl, rfl⟩⟩
    · show (0 : Int) ≤ 0 ∧ (0 : Int) ≤ 0 + ((0 : Nat) : Int) + 1; omega
    · show (0 : Int) ≤ 0 ∧ (0 : Int) ≤ 0 + ((0 : Nat) : Int); omega
  · rw [hns v hv]; exact Nat.le_refl _
end
end Go.Proofs.Ytjpjiniclibgkaa.Sx
