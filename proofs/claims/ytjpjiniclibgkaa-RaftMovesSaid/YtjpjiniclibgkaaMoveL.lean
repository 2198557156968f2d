/- A node is elected, where nothing is lost: terms, votes. Then: A node is elected, where nothing is lost: from its timeouts until all have its log. What is under way is heard: drain, walked. RaftMoves, its plain parts: the node that is begun anew; an entry is proposed and committed everywhere. RaftMoves, walked. The law RaftMoves holds of the program for every input: where nothing is lost any more, a node that times out when all others hear it leads, and what is then proposed to it is committed everywhere, after every beginning. Condition: none. -/
import Derived.Test.YtjpjiniclibgkaaMoveK
import Derived.Test.YtjpjiniclibgkaaSafeG
namespace Go.Proofs.Ytjpjiniclibgkaa.Sx
open Go Safe

/-! ### terms -/
theorem leadS_term (n : Node) : (leadS n).n.log.term = n.log.term := by
  unfold leadS
  split
  · show (winN n).log.term = _
    unfold winN
    split <;> rfl
  · rfl
theorem heardK_term {n : Node} {k : Msg} (h : Fine n) (hk : Heard n k) (ht : k.term ≤ n.log.term) : (heardK n k).n.log.term = n.log.term := by
  unfold heardK
  split
  · show (askN n k).log.term = _
    unfold askN
    split <;> rfl
  split
  · split
    · exact leadS_term _
    · rfl
  split
  · show (gotN n k).log.term = _
    rw [(got_keeps n k).2.2]
  · unfold leaderS
    split
    · rfl
    rename_i hlo
    split
    · rfl
    have hff := follow_fine h hk hlo
    have hfs : (followN n k.term k.frm).log = n.log := follow_same (by omega)
    have hkf : Heard (followN n k.term k.frm) k := ⟨hk.to, hk.f1, hk.f2, hk.f3, hk.k1, hk.k2, hk.t1, hk.t2, hk.a1, hk.a2, hk.b1, hk.b2, hk.c1, hk.c2, hk.l, hk.up⟩
    have hte : k.term = (followN n k.term k.frm).log.term := by rw [hfs]; omega
    split
    · exact (append_fine hff hkf hte (follow_zero _ _ _)).2.2.1.trans (by rw [hfs])
    · exact (install_fine hff hkf hte (follow_zero _ _ _)).2.2.1.trans (by rw [hfs])
theorem step_term {n : Node} {k : Msg} (he : (stepR n k).e = 0) : (stepR n k).n.log.term = max n.log.term k.term := by
  by_cases hg : goodB n = true ∧ soundB n k = true
  · have hr : stepR n k = heardK (turnN n k) k := by unfold stepR; rw [if_pos hg]
    have hf := fine_iff.1 hg.1
    have hk := heard_iff.1 hg.2
    have hterm : (turnN n k).log.term = max n.log.term k.term := by
      unfold turnN
      split
      · rename_i h1
        show (if k.term > n.log.term then ({ n.log with term := k.term, vote := -1 } : Log) else n.log).term = _
        rw [if_pos h1]
        show k.term = _
        omega
      · omega
    rw [hr, heardK_term (turn_fine hf hk) (heard_turn rfl hk) (by rw [hterm]; omega), hterm]
  · unfold stepR at he
    rw [if_neg hg] at he
    cases he
theorem cand_term (n : Node) : (candN n).log.term = n.log.term + 1 := by
  show (if n.log.term + 1 > n.log.term then ({ n.log with term := n.log.term + 1, vote := -1 } : Log) else n.log).term = _
  rw [if_pos (by omega)]
theorem timeout_term {n : Node} (he : (timeoutR n).e = 0) : (timeoutR n).n.log.term ≤ n.log.term + 1 := by
  unfold timeoutR at he ⊢
  split
  · split
    · show n.log.term ≤ _; omega
    · show (leadS (candN n)).n.log.term ≤ _
      rw [leadS_term, cand_term]; omega
  · rename_i h
    rw [if_neg h] at he
    cases he
theorem turnW_terms {w : WA} {v : Nat} {r : StepR} {m : Int} (hw : ∀ n ∈ w.ns, n.log.term ≤ m) (hr : r.e = 0 → r.n.log.term ≤ m) : ∀ n ∈ (turnW w v r).ns, n.log.term ≤ m := by
  unfold turnW
  split
  · rename_i he
    intro n hn
    rcases List.mem_or_eq_of_mem_set hn with h1 | h1
    · exact hw n h1
    · rw [h1]; exact hr he
  · exact hw
theorem Inv.terms {sz K S : Nat} {g : Gh Item} {nf : Nat → Node} {Fs : Nat → List Item} {w : WA} (h : Inv sz K S g nf Fs w) {m : Int} (hw : ∀ n ∈ w.ns, n.log.term ≤ m) (x : MoveV) : ∀ n ∈ (moveW w x).ns, n.log.term ≤ m + 1 := by
  have hw1 : ∀ n ∈ w.ns, n.log.term ≤ m + 1 := fun n hn => by have := hw n hn; omega
  have hl : ∀ n ∈ (lessW w x).ns, n.log.term ≤ m + 1 := by rw [lessW_same.1]; exact hw1
  unfold moveW
  split
  · split
    · exact hw1
    · split
      · rename_i k hk
        unfold hearW
        split
        · exact hl
        · split
          · rename_i n hn
            refine turnW_terms hl fun he => ?_
            rw [step_term he]
            have hmok := h.wi.ms k (List.mem_of_getElem? hk)
            have h1 := hmok.tl
            have h2 := hmok.f2
            have hn2 := List.getElem?_eq_getElem (show k.frm.toNat < w.ns.length by rw [h.len]; exact h2)
            have h3 := h.same _ _ hn2
            have h4 := hw _ (List.mem_of_getElem? hn2)
            have h5 := hw n (List.mem_of_getElem? hn)
            rw [h3] at h1
            omega
          · exact hl
      · exact hw1
  · split
    · exact hw1
    · split
      · rename_i n hn
        have hn5 := hw n (List.mem_of_getElem? hn)
        unfold ownW
        split
        · exact turnW_terms hw1 fun he => by have := timeout_term he; omega
        split
        · refine turnW_terms hw1 fun he => ?_
          unfold beatR at he ⊢
          split
          · split
            · show n.log.term ≤ _; omega
            · show n.log.term ≤ _; omega
          · rename_i hg
            rw [if_neg hg] at he; cases he
        split
        · refine turnW_terms (w := { w with ct := _ }) hw1 fun he => ?_
          have he : (proposeR n (seqE (IntKind.i64.wrap (w.ct + 1)))).e = 0 := he
          show (proposeR n (seqE (IntKind.i64.wrap (w.ct + 1)))).n.log.term ≤ m + 1
          unfold proposeR at he ⊢
          split
          · rename_i h1
            rw [if_pos h1] at he
            split
            · rename_i h2
              rw [if_pos h2] at he
              split
              · show n.log.term ≤ m + 1; omega
              · rename_i h3
                rw [if_neg h3] at he; cases he
            · rename_i h2
              rw [if_neg h2] at he; cases he
          · rename_i h1
            rw [if_neg h1] at he; cases he
        split
        · refine turnW_terms hw1 fun he => ?_
          unfold newR at he ⊢
          split
          · show n.log.term ≤ _; omega
          · rename_i hg
            rw [if_neg hg] at he; cases he
        split
        · refine turnW_terms hw1 fun he => ?_
          unfold compactR at he ⊢
          split
          · show n.log.term ≤ _; omega
          · rename_i hg
            rw [if_neg hg] at he; cases he
        · exact turnW_terms hw1 fun _ => by show n.log.term ≤ _; omega
      · exact hw1
/-- Moves that do not compact ask for no bound of the logs. -/
theorem Inv.next {sz K S : Nat} {g : Gh Item} {nf : Nat → Node} {Fs : Nat → List Item} {w : WA} (h : Inv sz K S g nf Fs w) (x : MoveV) (hx : x.kind ≤ 6) : ∃ K' g' nf' Fs', Inv sz K' S g' nf' Fs' (moveW w x) := by
  have hsame : ∃ K' g' nf' Fs', Inv sz K' S g' nf' Fs' w := ⟨K, g, nf, Fs, h⟩
  have one : ∀ {w' : WA}, (∃ g' nf' Fs', Inv sz (K + 1) S g' nf' Fs' w') → ∃ K' g' nf' Fs', Inv sz K' S g' nf' Fs' w' := fun h => ⟨K + 1, h⟩
  have hl2 : (lessW w x).us.length ≤ 256 := Nat.le_trans lessW_len h.ul
  obtain ⟨l1, l4, l5, l6, l7⟩ := lessW_same (w := w) (x := x)
  have hless : ∃ K' g' nf' Fs', Inv sz K' S g' nf' Fs' (lessW w x) := ⟨K, g, nf, Fs, h.less l1 lessW_mem hl2 l4 l5 l6 l7 (Nat.le_refl _)⟩
  unfold moveW
  split
  · split
    · exact hsame
    · split
      · rename_i k hk
        unfold hearW
        split
        · exact hless
        · split
          · rename_i n hn
            have hmok := h.wi.ms k (List.mem_of_getElem? hk)
            obtain ⟨hv, hh⟩ := h.here hn
            have hb := h.wi.base _ hv
            rw [h.same _ _ hn] at hb
            exact one (h.turn l1 lessW_mem hl2 l4 l5 l6 l7 hn fun he => hh.step hmok hb he)
          · exact hless
      · exact hsame
  · split
    · exact hsame
    · split
      · rename_i n hn
        obtain ⟨hv, hh⟩ := h.here hn
        have hb := h.wi.base _ hv
        rw [h.same _ _ hn] at hb
        unfold ownW
        split
        · exact one (h.own hn fun _ => hh.timeout hb)
        split
        · exact one (h.own hn fun _ => hh.beat hb)
        split
        · exact one (h.turn (w' := { w with ct := IntKind.i64.wrap (w.ct + 1) }) (r := proS n (seqE (IntKind.i64.wrap (w.ct + 1)))) rfl (fun _ hm => hm) h.ul rfl rfl rfl rfl hn fun he => hh.propose hb (e := seqE (IntKind.i64.wrap (w.ct + 1))) he)
        split
        · refine one (h.own hn fun he => ?_)
          have e1 : x.who = n.me := by rw [hh.me]; omega
          have e2 : ((w.ns.length : Nat) : Int) = n.size := by rw [hh.size, h.len]
          have e3 : newR x.who ((w.ns.length : Nat) : Int) n.log = newR n.me n.size n.log := by rw [e2, ← e1]
          rw [newR_ks]
          rw [e3] at he ⊢
          exact hh.new hb he
        split
        · rename_i h7
          omega
        · exact one (h.own hn fun _ => Went.still hh hb fun _ _ m hm => by cases hm)
      · exact hsame
theorem Inv.drain {sz S : Nat} : ∀ (m K : Nat) (g : Gh Item) (nf : Nat → Node) (Fs : Nat → List Item) (w : WA), Inv sz K S g nf Fs w → ∃ K' g' nf' Fs', Inv sz K' S g' nf' Fs' (drainW m w)
  | 0, K, g, nf, Fs, _, h => ⟨K, g, nf, Fs, h⟩
  | m + 1, K, g, nf, Fs, w, h => by
    rw [drainW]
    split
    · exact ⟨K, g, nf, Fs, h⟩
    · obtain ⟨K', g', nf', Fs', h'⟩ := h.next ⟨0, 0, 0⟩ (by decide)
      exact Inv.drain m K' g' nf' Fs' _ h'
/-! ### votes -/
/-- A node's log is no newer. -/
def Newest (nb n : Node) : Prop := (lastN nb.log).2 > (lastN n.log).2 ∨ ((lastN nb.log).2 = (lastN n.log).2 ∧ (lastN nb.log).1 ≥ (lastN n.log).1)
def askQ (nb : Node) (v : Nat) : Msg := sayN nb (v : Int) (askM (lastN nb.log).1 (lastN nb.log).2)
def voteQ (T : Int) (b v : Nat) : Msg := ⟨(v : Int), (b : Int), 2, T, 0, 0, 0, true, [], ByteArray.empty⟩
theorem lastN_two {n : Node} (h : Fine n) : 0 ≤ (lastN n.log).2 ∧ (lastN n.log).2 ≤ n.log.term := by
  have hbt := h.bt
  obtain ⟨h1, h2⟩ := h.ris
  unfold lastN
  split
  · rename_i x hx
    rw [List.getLast?_eq_getElem?] at hx
    have := chain_le h1 hx
    show 0 ≤ x.term ∧ x.term ≤ _
    omega
  · have h3 := endT_take 0 h1
    have h3 : n.log.baseTerm ≤ endT n.log.baseTerm n.log.items := h3
    show 0 ≤ n.log.baseTerm ∧ n.log.baseTerm ≤ _
    omega
theorem lastN_same {a b : Log} (h1 : a.items = b.items) (h2 : a.base = b.base) (h3 : a.baseTerm = b.baseTerm) : lastN a = lastN b := by
  unfold lastN
  rw [h1, h2, h3]
/-- A vote is asked for, and given. -/
theorem step_ask {nb n : Node} {b v sz : Nat} {T : Int} (hb : Fine nb) (hf : Fine n) (hbm : nb.me = (b : Int)) (hbs : nb.size = (sz : Int)) (hnm : n.me = (v : Int)) (hns : n.size = (sz : Int)) (hvb : v ≠ b) (ht : nb.log.term = T) (hlt : n.log.term < T) (hl : lastI nb ≤ 240) (hnew : Newest nb n) :
    ∃ n', stepR n (askQ nb v) = ⟨n', [voteQ T b v], 0⟩ ∧ n'.log.term = T ∧ n'.role = 0 ∧ lastI n' = lastI n ∧ (lastN n'.log) = lastN n.log := by
  have hl1 : (lastN nb.log).1 = lastI nb := last_fit hb.fit
  have hl2 := lastN_two hb
  have hb1 := hb.b1
  have hll : lastI nb = nb.log.base + nb.log.items.length := rfl
  have hbt1 := hb.t1
  have hbt2 := hb.t2
  have hm1 := hb.m1
  have hm2 := hb.m2
  have hk : Heard n (askQ nb v) := by
    refine ⟨hnm.symm, hm1, by show nb.me < n.size; omega, by show nb.me ≠ n.me; omega, by show (1 : Int) ≤ 1; decide, by show (1 : Int) ≤ 5; decide, hbt1, hbt2, ?_, ?_, hl2.1, hl2.2, Int.le_refl _, by show (0 : Int) ≤ 1099511627776; decide, Nat.zero_le _, ⟨rfl, hl2.2⟩⟩
    · show 0 ≤ (lastN nb.log).1; omega
    · show (lastN nb.log).1 ≤ 1099511627776; omega
  have htk : (askQ nb v).term > n.log.term := by show nb.log.term > _; omega
  obtain ⟨m, hm⟩ : ∃ m, m = followN n (askQ nb v).term (-1) := ⟨_, rfl⟩
  have hlog : m.log = { n.log with term := nb.log.term, vote := -1 } := by
    rw [hm]
    show (if (askQ nb v).term > n.log.term then ({ n.log with term := (askQ nb v).term, vote := -1 } : Log) else n.log) = _
    rw [if_pos htk]
    rfl
  have hlm : lastN m.log = lastN n.log := by rw [hlog]; exact lastN_same rfl rfl rfl
  have hturn : turnN n (askQ nb v) = m := by unfold turnN; rw [if_pos htk, hm]
  have hyes : askB m (askQ nb v) = true := by
    unfold askB newerB
    rw [hlm]
    have e1 : ((askQ nb v).term == m.log.term) = true := by rw [hlog]; exact beq_self_eq_true _
    have e2 : (m.log.vote == -1) = true := by rw [hlog]; rfl
    rw [e1, e2]
    have e3 : (askQ nb v).lastTerm = (lastN nb.log).2 := rfl
    have e4 : (askQ nb v).last = (lastN nb.log).1 := rfl
    rw [e3, e4]
    rcases hnew with h1 | ⟨h1, h2⟩
    · rw [decide_eq_true h1]; rfl
    · rw [h1, decide_eq_true h2]; simp
  have hst : stepR n (askQ nb v) = heardS m (askQ nb v) (askR m (askQ nb v)) := by
    unfold stepR
    rw [if_pos ⟨fine_iff.2 hf, heard_iff.2 hk⟩, hturn]
    unfold heardK
    rw [if_pos (show (askQ nb v).kind = 1 from rfl)]
  have hmm : m.me = (v : Int) := by rw [hm]; exact hnm
  have hmt : m.log.term = T := by rw [hlog]; exact ht
  have hask : askN m (askQ nb v) = { m with log := { m.log with vote := (askQ nb v).frm } } := by unfold askN; rw [hyes]
  refine ⟨askN m (askQ nb v), ?_, ?_, ?_, ?_, ?_⟩
  · rw [hst]
    unfold heardS askR repl1
    rw [hyes]
    have : sayN m (askQ nb v).frm (voteM true) = voteQ T b v := by
      unfold sayN voteQ voteM mkM
      rw [hmm, hmt]
      show (⟨(v : Int), nb.me, 2, T, 0, 0, 0, true, [], ByteArray.empty⟩ : Msg) = _
      rw [hbm]
    show (⟨askN m (askQ nb v), [sayN m (askQ nb v).frm (voteM true)], 0⟩ : StepR) = _
    rw [this]
  · rw [hask]; exact hmt
  · rw [hask]; show m.role = 0; rw [hm]; rfl
  · rw [hask]
    show m.log.base + (m.log.items.length : Int) = _
    rw [hlog]; rfl
  · rw [hask]
    show lastN { m.log with vote := _ } = _
    rw [← hlm]
    exact lastN_same rfl rfl rfl
theorem vote_heard {T : Int} {b v sz : Nat} (hv : v < sz) (hvb : v ≠ b) (ht1 : 0 ≤ T) (ht2 : T ≤ 1099511627776) : ∀ a : Node, a.me = (b : Int) → a.size = (sz : Int) → Heard a (voteQ T b v) := fun a ha1 ha2 =>
  ⟨ha1.symm, Int.natCast_nonneg _, by show (v : Int) < a.size; omega, by show (v : Int) ≠ a.me; omega, by show (1 : Int) ≤ 2; decide, by show (2 : Int) ≤ 5; decide, ht1, ht2, Int.le_refl _, by show (0 : Int) ≤ 1099511627776; decide, Int.le_refl _, ht1, Int.le_refl _, by show (0 : Int) ≤ 1099511627776; decide, Nat.zero_le _, ⟨rfl, ht1⟩⟩
theorem step_vote {nb : Node} {b v sz : Nat} {T : Int} (hb : Fine nb) (hbm : nb.me = (b : Int)) (hbs : nb.size = (sz : Int)) (hv : v < sz) (hvb : v ≠ b) (ht : nb.log.term = T) (hro : nb.role = 1) :
    stepR nb (voteQ T b v) = leadS (orN nb (voteQ T b v)) ∧ ∀ u, u < sz → bitN (orN nb (voteQ T b v)).votes u = (bitN nb.votes u || u == v) := by
  have hk := vote_heard (T := T) (b := b) hv hvb (by have := hb.t1; omega) (by have := hb.t2; omega) nb hbm hbs
  have hw1 := hb.w1
  have hw2 := hb.w2
  have hs2 := hb.s2
  refine ⟨?_, fun u hu => ?_⟩
  · rw [step_good hb hk ht.symm]
    have hvt : voteB nb (voteQ T b v) = true := by
      unfold voteB
      rw [hro, ht]
      show ((1 : Int) == 1 && T == T && true) = true
      simp
    unfold heardK
    rw [if_neg (show ¬ (voteQ T b v).kind = 1 by show ¬ (2 : Int) = 1; decide), if_pos (show (voteQ T b v).kind = 2 from rfl), if_pos hvt]
  · have e : nb.size.toNat = sz := by omega
    rw [e] at hw2
    have hlt : nb.votes.toNat < 2 ^ sz := by
      have : ((2 ^ sz : Nat) : Int) = 2 ^ sz := by simp
      omega
    have e1 : ((nb.votes.toNat : Nat) : Int) = nb.votes := by omega
    have := or_bits (s := sz) (v := nb.votes.toNat) (f := v) (w := u) (by omega) hlt hv hu
    rw [e1] at this
    exact this
theorem enough_all {n : Node} {sz : Nat} (h : Fine n) (hsz : n.size = (sz : Int)) (hall : ∀ u, u < sz → bitN n.votes u = true) : enoughB n = true := by
  have h1 := h.s1; have h2 := h.s2; have h3 := h.w1; have h4 := h.w2
  have e : n.size.toNat = sz := by omega
  rw [e] at h4
  have hlt : n.votes.toNat < 2 ^ sz := by
    have : ((2 ^ sz : Nat) : Int) = 2 ^ sz := by simp
    omega
  have hp := pop_cnt (s := sz) (by omega) hlt
  have hc := cnt_all (p := fun k => n.votes.toNat.testBit k) sz hall
  unfold enoughB
  refine decide_eq_true ?_
  rw [hp, hc]
  omega
end Go.Proofs.Ytjpjiniclibgkaa.Sx

namespace Go.Proofs.Ytjpjiniclibgkaa.Sx
open Go Safe

theorem sum_le2 {f : Nat → Nat} {m : Nat} : ∀ s, (∀ u, u < s → f u ≤ m) → sumF f s ≤ s * m
  | 0, _ => by show 0 ≤ _; omega
  | s + 1, h => by
    have h1 := sum_le2 s fun u hu => h u (by omega)
    have h2 := h s (by omega)
    show sumF f s + f s ≤ (s + 1) * m
    rw [Nat.add_mul, Nat.one_mul]
    omega
section
variable {g : Gh Item} {T c top : Int} {b sz K S i : Nat} {nb : Node} {nf : Nat → Node} {Fs : Nat → List Item} {q : Nat → Msg} {w : WA} {stale : List Msg} {vs asks votes : List Nat}
theorem PL.mu_le (h : PL sz b T c g nb Fs q stale vs w) : stale.length + sumF (muF b nb q vs) sz ≤ 7000 := by
  have h7 := h.sz7
  have hsl := h.sl
  have hlast := h.lead.link.last
  have h240 := h.l240
  have := sum_le2 (f := muF b nb q vs) (m := 962) sz fun u hu => by
    unfold muF
    split
    · omega
    · have h1 := h.lead.fine.rg.nx u (by rw [h.lead.size]; omega)
      have h2 := h.lead.fine.rg.mt u (by rw [h.lead.size]; omega)
      have h3 : flF q vs u ≤ 2 := by
        unfold flF
        split
        · split <;> omega
        · omega
      omega
  have h5 : sz * 962 ≤ 7 * 962 := Nat.mul_le_mul_right _ h7
  omega
/-- A candidate, where nothing is lost. -/
structure PE (sz b : Nat) (T : Int) (nb : Node) (asks votes : List Nat) (w : WA) : Prop where
  inv : ∃ K S g nf Fs, Inv sz K S g nf Fs w
  sz7 : sz ≤ 7
  at' : w.ns[b]? = some nb
  role : nb.role = 1
  term : nb.log.term = T
  no : enoughB nb = false
  lens : ∀ (v : Nat) (n : Node), w.ns[v]? = some n → lastI n ≤ 230
  qu : w.us = asks.map (askQ nb) ++ votes.map (voteQ T b)
  ul : asks.length + votes.length ≤ 7
  vl : ∀ v ∈ asks ++ votes, v < sz ∧ v ≠ b
  nd : asks.Nodup
  fo : ∀ (v : Nat) (n : Node), v ≠ b → w.ns[v]? = some n → (v ∈ asks ∧ n.log.term < T ∧ Newest nb n) ∨ (v ∉ asks ∧ n.log.term = T ∧ n.role = 0)
  bits : ∀ v, v < sz → v ∉ asks → v ∉ votes → bitN nb.votes v = true
/-- A leader's beginning. -/
theorem win_first {m : Node} (hf : Fine m) (hm : m.me = (b : Int)) (hs : m.size = (sz : Int)) (hl : lastI m ≤ 239) : (winN m).role = 2 ∧ (winN m).lead = (b : Int) ∧ (winN m).log.term = m.log.term ∧ lastI (winN m) = lastI m + 1 ∧ (termAtN (winN m).log (lastI (winN m))).1 = m.log.term ∧ (winN m).mat b = lastI (winN m) ∧ (2 * (haveN (winN m) (lastI (winN m)) sz : Int) > sz → (winN m).commit = lastI (winN m)) ∧ ∀ v, v < sz → v ≠ b → (winN m).mat v = 0 ∧ 0 ≤ (winN m).next v - 1 := by
  have hb1 := hf.b1
  have hll : lastI m = m.log.base + m.log.items.length := rfl
  have hsm : (leadN m).log.items.length < 256 := by show m.log.items.length < 256; omega
  have hw : winN m = putN (leadN m) noneE := by unfold winN; rw [if_pos (by omega)]
  obtain ⟨f1, f2, f3, f4, f5⟩ := put_facts (lead_fine hf) valid_none hsm
  have hmb : (leadN m).me.toNat = b := by show m.me.toNat = b; omega
  have hmb2 : m.me.toNat = b := hmb
  rw [hmb] at f4
  rw [hw]
  refine ⟨rfl, hm, rfl, f2, f3, f4, f5 sz hs, fun v hv hvb => ?_⟩
  have hsv : v < m.size.toNat := by omega
  refine ⟨?_, ?_⟩
  · show (if v = m.me.toNat then _ else if v = m.me.toNat then _ else if v < m.size.toNat then (0 : Int) else m.mat v) = 0
    rw [hmb2, if_neg hvb, if_neg hvb, if_pos hsv]
  · show 0 ≤ (if v = m.me.toNat then _ else if v < m.size.toNat then m.log.base + m.log.items.length + 1 else m.next v) - 1
    rw [hmb2, if_neg hvb, if_pos hsv]
    omega
theorem set_other {l : List Node} {i j : Nat} {x y : Node} (h : (l.set i x)[j]? = some y) (hij : j ≠ i) : l[j]? = some y := by
  rwa [List.getElem?_set_ne fun h => hij h.symm] at h
theorem PE.step (h : PE sz b T nb asks votes w) : w.us ≠ [] ∧ ((∃ nb' asks' votes', PE sz b T nb' asks' votes' (moveW w ⟨0, 0, 0⟩) ∧ 2 * asks'.length + votes'.length < 2 * asks.length + votes.length) ∨
    ∃ g nb' Fs q stale vs, PL sz b T 0 g nb' Fs q stale vs (moveW w ⟨0, 0, 0⟩) ∧ (g.ld T).isSome = true ∧ (g.L T).length ≤ 231) := by
  obtain ⟨K, S, g, nf, Fs, hI⟩ := h.inv
  obtain ⟨hbs, hh⟩ := hI.here h.at'
  have hul := h.ul
  have hnext := hI.next ⟨0, 0, 0⟩ (by decide)
  have ht1 := hh.fine.t1
  have ht2 := hh.fine.t2
  have hterm := h.term
  match asks, h, hul with
  | v :: r, h, hul =>
    have hvl := h.vl v (List.mem_append.2 (.inl (List.mem_cons_self ..)))
    obtain ⟨n, hn⟩ : ∃ n, w.ns[v]? = some n := ⟨_, List.getElem?_eq_getElem (by rw [hI.len]; exact hvl.1)⟩
    obtain ⟨_, hv⟩ := hI.here hn
    have hnd := List.nodup_cons.1 h.nd
    rcases h.fo v n hvl.2 hn with ⟨_, hlt, hnew⟩ | ⟨hno, _⟩
    case inr => exact absurd (List.mem_cons_self ..) hno
    obtain ⟨n', hs, n1, n2, n3, n4⟩ := step_ask hh.fine hv.fine hh.me hh.size hv.me hv.size hvl.2 h.term hlt (by have := h.lens b nb h.at'; omega) hnew
    have hq : w.us = askQ nb v :: (r.map (askQ nb) ++ votes.map (voteQ T b)) := h.qu
    have hlr : (v :: r).length = r.length + 1 := rfl
    have e := drain1 (w := w) (k := askQ nb v) (v := v) hq rfl hn hs rfl (by
      show (r.map (askQ nb) ++ votes.map (voteQ T b)).length + 1 ≤ 256
      rw [List.length_append, List.length_map, List.length_map]; omega)
    refine ⟨by rw [hq]; simp, .inl ⟨nb, r, votes ++ [v], ?_, by rw [List.length_append]; show 2 * r.length + (votes.length + 1) < 2 * (r.length + 1) + votes.length; omega⟩⟩
    rw [e] at hnext ⊢
    have hself : ∀ m, (w.ns.set v n')[v]? = some m → m = n' := fun m hx => by
      rw [List.getElem?_set_self (List.getElem?_eq_some_iff.1 hn).1] at hx
      exact (Option.some.inj hx).symm
    have hvb := hvl.2
    refine ⟨?_, h.sz7, ?_, h.role, h.term, h.no, fun u m hx => ?_, ?_, ?_, fun u hu => h.vl u ?_, hnd.2, fun u m hub hx => ?_, fun u hu hu1 hu2 => h.bits u hu ?_ ?_⟩
    · obtain ⟨K', g', nf', Fs', h'⟩ := hnext
      exact ⟨K', S, g', nf', Fs', h'⟩
    · show (w.ns.set v n')[b]? = some nb
      rw [List.getElem?_set_ne hvb]; exact h.at'
    · have hx : (w.ns.set v n')[u]? = some m := hx
      by_cases huv : u = v
      · subst huv
        rw [hself m hx, n3]
        exact h.lens u n hn
      · exact h.lens u m (set_other hx huv)
    · show (r.map (askQ nb) ++ votes.map (voteQ T b)) ++ [voteQ T b v] = r.map (askQ nb) ++ (votes ++ [v]).map (voteQ T b)
      rw [List.map_append, List.append_assoc]; rfl
    · rw [List.length_append]; show r.length + (votes.length + 1) ≤ 7; omega
    · rw [← List.append_assoc] at hu
      rcases List.mem_append.1 hu with h1 | h1
      · rcases List.mem_append.1 h1 with h2 | h2
        · exact List.mem_append.2 (.inl (List.mem_cons_of_mem _ h2))
        · exact List.mem_append.2 (.inr h2)
      · rw [List.mem_singleton.1 h1]
        exact List.mem_append.2 (.inl (List.mem_cons_self ..))
    · have hx : (w.ns.set v n')[u]? = some m := hx
      by_cases huv : u = v
      · subst huv
        rw [hself m hx]
        exact .inr ⟨hnd.1, n1, n2⟩
      · rcases h.fo u m hub (set_other hx huv) with ⟨h1, h2⟩ | ⟨h1, h2⟩
        · rcases List.mem_cons.1 h1 with h3 | h3
          · exact absurd h3 huv
          · exact .inl ⟨h3, h2⟩
        · exact .inr ⟨fun h3 => h1 (List.mem_cons_of_mem _ h3), h2⟩
    · intro h1
      rcases List.mem_cons.1 h1 with h3 | h3
      · exact hu2 (List.mem_append.2 (.inr (List.mem_singleton.2 h3)))
      · exact hu1 h3
    · exact fun h1 => hu2 (List.mem_append.2 (.inl h1))
  | [], h, hul =>
    match votes, h, hul with
    | [], h, _ =>
      have := enough_all hh.fine hh.size fun u hu => h.bits u hu List.not_mem_nil List.not_mem_nil
      rw [h.no] at this
      cases this
    | v :: r, h, hul =>
      have hvl := h.vl v (List.mem_append.2 (.inr (List.mem_cons_self ..)))
      have hlr : (v :: r).length = r.length + 1 := rfl
      have hl0 : ([] : List Nat).length = 0 := rfl
      have hq : w.us = voteQ T b v :: r.map (voteQ T b) := h.qu
      obtain ⟨hs, hbits⟩ := step_vote (b := b) (v := v) hh.fine hh.me hh.size hvl.1 hvl.2 h.term h.role
      have hkd := vote_heard (T := T) (b := b) (sz := sz) hvl.1 hvl.2 (by omega) (by omega) nb hh.me hh.size
      have hof := or_fine (k := voteQ T b v) hh.fine hkd.f1 hkd.f2
      obtain ⟨m, hm⟩ : ∃ m, m = orN nb (voteQ T b v) := ⟨_, rfl⟩
      rw [← hm] at hs hbits hof
      have hmm : m.me = (b : Int) := by rw [hm]; exact hh.me
      have hms : m.size = (sz : Int) := by rw [hm]; exact hh.size
      have hmr : m.role = 1 := by rw [hm]; exact h.role
      have hmt : m.log.term = T := by rw [hm]; exact h.term
      have hml : lastI m = lastI nb := by rw [hm]; rfl
      have hlb := h.lens b nb h.at'
      have hlen : w.ns.length = sz := hI.len
      refine ⟨by rw [hq]; simp, ?_⟩
      cases hen : enoughB m with
      | false =>
        have hlS : leadS m = ⟨m, [], 0⟩ := by unfold leadS; rw [if_neg (by rw [hen]; decide)]
        rw [hlS] at hs
        have e := drain1 (w := w) (k := voteQ T b v) (v := b) hq rfl h.at' hs rfl (by
          show (r.map (voteQ T b)).length + 0 ≤ 256
          rw [List.length_map]; omega)
        refine .inl ⟨m, [], r, ?_, by show 2 * 0 + r.length < 2 * 0 + (r.length + 1); omega⟩
        rw [e] at hnext ⊢
        have hself : ∀ a, (w.ns.set b m)[b]? = some a → a = m := fun a hx => by
          rw [List.getElem?_set_self (List.getElem?_eq_some_iff.1 h.at').1] at hx
          exact (Option.some.inj hx).symm
        refine ⟨?_, h.sz7, ?_, hmr, hmt, hen, fun u a hx => ?_, ?_, by show 0 + r.length ≤ 7; omega, fun u hu => h.vl u (by
          rcases List.mem_append.1 hu with h1 | h1
          · cases h1
          · exact List.mem_append.2 (.inr (List.mem_cons_of_mem _ h1))), List.nodup_nil, fun u a hub hx => ?_, fun u hu _ hu2 => ?_⟩
        · obtain ⟨K', g', nf', Fs', h'⟩ := hnext
          exact ⟨K', S, g', nf', Fs', h'⟩
        · show (w.ns.set b m)[b]? = some m
          exact List.getElem?_set_self (List.getElem?_eq_some_iff.1 h.at').1
        · have hx : (w.ns.set b m)[u]? = some a := hx
          by_cases hub : u = b
          · subst hub
            rw [hself a hx, hml]; exact hlb
          · exact h.lens u a (set_other hx hub)
        · show r.map (voteQ T b) ++ [] = [] ++ r.map (voteQ T b)
          rw [List.append_nil, List.nil_append]
        · have hx : (w.ns.set b m)[u]? = some a := hx
          rcases h.fo u a hub (set_other hx hub) with ⟨h1, _⟩ | ⟨_, h2⟩
          · cases h1
          · exact .inr ⟨List.not_mem_nil, h2⟩
        · rw [hbits u hu]
          by_cases huv : u = v
          · rw [huv]; simp
          · rw [h.bits u hu List.not_mem_nil fun h1 => by
              rcases List.mem_cons.1 h1 with h3 | h3
              · exact huv h3
              · exact hu2 h3]
            rfl
      | true =>
        have hlS : leadS m = ⟨winN m, feedAllK (winN m), 0⟩ := by unfold leadS; rw [if_pos hen]
        rw [hlS] at hs
        obtain ⟨w1, w2, w3, w4, w5, w6, w7, w8⟩ := win_first hof hmm hms (by omega)
        have hfl : (feedAllK (winN m)).length ≤ 8 := by
          unfold feedAllK
          rw [List.length_map]
          have h1 := others_len (winN m) (winN m).size.toNat
          have h2 : (winN m).size = m.size := by unfold winN; split <;> rfl
          have h3 := h.sz7
          rw [h2] at h1 ⊢
          omega
        have e := drain1 (w := w) (k := voteQ T b v) (v := b) hq rfl h.at' hs rfl (by
          show (r.map (voteQ T b)).length + (feedAllK (winN m)).length ≤ 256
          rw [List.length_map]; omega)
        refine .inr ?_
        rw [e] at hnext ⊢
        obtain ⟨K', g', nf', Fs', h'⟩ := hnext
        have hat : (w.ns.set b (winN m))[b]? = some (winN m) := List.getElem?_set_self (List.getElem?_eq_some_iff.1 h.at').1
        have hlead := (h'.here hat).2.lead w1
        rw [w3, hmt] at hlead
        have hlast := (h'.here hat).2.link.last
        have hpl := PL.first (b := b) (T := T) (stale := r.map (voteQ T b)) h' h.sz7 hat w1 w2 (w3.trans hmt) (by omega) (w5.trans hmt) w6 w7 w8 (fun u a hub hx => by
          have hx := set_other hx hub
          rcases h.fo u a hub hx with ⟨h1, _⟩ | ⟨_, h2, h3⟩
          · cases h1
          · exact ⟨h2, h3, by have := h.lens u a hx; omega⟩) rfl (fun k hk => by
          obtain ⟨u, hu, rfl⟩ := List.mem_map.1 hk
          have hul := h.vl u (List.mem_append.2 (.inr (List.mem_cons_of_mem _ hu)))
          exact ⟨rfl, rfl, rfl, vote_heard hul.1 hul.2 (by omega) (by omega)⟩) (by rw [List.length_map]; omega)
        exact ⟨g', _, _, _, _, _, hpl, by rw [hlead.1]; rfl, by rw [← hlead.2.1]; omega⟩
/-- A leader, and nothing under way. -/
def Rest (sz b : Nat) (T : Int) (w : WA) : Prop := ∃ g nb Fs q, PL sz b T 0 g nb Fs q [] [] w ∧ (g.ld T).isSome = true ∧ (g.L T).length ≤ 231
theorem PE.drain : ∀ (m : Nat) (nb : Node) (asks votes : List Nat) (w : WA), PE sz b T nb asks votes w → 2 * asks.length + votes.length + 7001 ≤ m → Rest sz b T (drainW m w) := by
  intro m
  induction m with
  | zero => intro nb asks votes w h hm; omega
  | succ m ih =>
    intro nb asks votes w h hm
    obtain ⟨hne, hst⟩ := h.step
    have e : drainW (m + 1) w = drainW m (moveW w ⟨0, 0, 0⟩) := by
      rw [drainW]
      split
      · rename_i hw; exact absurd hw hne
      · rfl
    rw [e]
    rcases hst with ⟨nb', asks', votes', h', hlt⟩ | ⟨g, nb', Fs, q, stale, vs, h', h1, h2⟩
    · exact ih nb' asks' votes' _ h' (by omega)
    · have hmu := h'.mu_le
      obtain ⟨nb2, Fs2, q2, h3⟩ := PL.drain m nb' Fs q stale vs _ h' (by omega)
      exact ⟨g, nb2, Fs2, q2, h3, h1, h2⟩
/-! ### timeouts -/
theorem one_vote {k : Nat} (h : k < 7) : popN (IntKind.i64.wrap (1 * 2 ^ (min k IntKind.i64.bits))).toNat = 1 ∧ bitN (IntKind.i64.wrap (1 * 2 ^ (min k IntKind.i64.bits))) k = true := by
  have key : ((List.range 7).all fun k => popN (IntKind.i64.wrap (1 * 2 ^ (min k IntKind.i64.bits))).toNat == 1 && bitN (IntKind.i64.wrap (1 * 2 ^ (min k IntKind.i64.bits))) k) = true := by kernel_rfl
  have := List.all_eq_true.1 key k (List.mem_range.2 h)
  simp only [Bool.and_eq_true, beq_iff_eq] at this
  exact this
theorem cand_facts {n : Node} (hf : Fine n) : (candN n).me = n.me ∧ (candN n).size = n.size ∧ (candN n).role = 1 ∧ lastN (candN n).log = lastN n.log ∧ lastI (candN n) = lastI n ∧ bitN (candN n).votes n.me.toNat = true ∧ enoughB (candN n) = decide (2 > n.size) := by
  have hlog : (candN n).log = { ({ n.log with term := n.log.term + 1, vote := -1 } : Log) with vote := n.me } := by
    show ({ (if n.log.term + 1 > n.log.term then ({ n.log with term := n.log.term + 1, vote := -1 } : Log) else n.log) with vote := n.me } : Log) = _
    rw [if_pos (by omega)]
  have hm1 := hf.m1; have hm2 := hf.m2; have hs2 := hf.s2
  obtain ⟨o1, o2⟩ := one_vote (k := n.me.toNat) (by omega)
  refine ⟨rfl, rfl, rfl, by rw [hlog]; exact lastN_same rfl rfl rfl, by unfold lastI; rw [hlog], o2, ?_⟩
  unfold enoughB
  have : popN (candN n).votes.toNat = 1 := o1
  rw [this]
  rfl
/-- The node that times out again and again, and all others. -/
structure TL (sz b : Nat) (top : Int) (i : Nat) (w : WA) : Prop where
  inv : ∃ K S g nf Fs, Inv sz K S g nf Fs w
  sz7 : sz ≤ 7
  lens : ∀ (v : Nat) (n : Node), w.ns[v]? = some n → lastI n ≤ 230
  oth : ∀ (v : Nat) (n : Node), v ≠ b → w.ns[v]? = some n → n.log.term ≤ top
  st : ∃ nb, w.ns[b]? = some nb ∧ (i : Int) ≤ nb.log.term ∧ (sz = 1 → top ≤ nb.log.term) ∧ (∀ (v : Nat) (n : Node), v ≠ b → w.ns[v]? = some n → Newest nb n) ∧ ((nb.log.term ≤ top ∧ nb.role ≠ 2 ∧ lastI nb ≤ 229) ∨ (nb.log.term = top + 1 ∧ ((∃ asks, PE sz b (top + 1) nb asks [] w) ∨ Rest sz b (top + 1) w)))
theorem TL.step (h : TL sz b top i w) (ht : top ≤ 1000) {n : Node} (hn : w.ns[b]? = some n) (hlt : n.log.term ≤ top) {w1 : WA} (h1 : w1.ns = w.ns) (h2 : w1.us = []) (h3 : w1.ts = w.ts) (h4 : w1.ls = w.ls) (h5 : w1.su = w.su) (h6 : w1.si = w.si) :
    TL sz b top (i + 1) (moveW w1 ⟨3, (b : Int), 0⟩) := by
  obtain ⟨K, S, g, nf, Fs, hI⟩ := h.inv
  obtain ⟨nb, hat, hi, hone, hnew, hst⟩ := h.st
  rw [hn] at hat
  cases hat
  obtain ⟨hbs, hh⟩ := hI.here hn
  have hI1 : Inv sz K S g nf Fs w1 := hI.less h1 (by rw [h2]; intro m hm; cases hm) (by rw [h2]; exact Nat.zero_le _) h3 h4 h5 h6 (Nat.le_refl _)
  have hnext := hI1.next ⟨3, (b : Int), 0⟩ (by show (3 : Int) ≤ 6; decide)
  have hn1 : w1.ns[b]? = some n := by rw [h1]; exact hn
  have hmv : moveW w1 ⟨3, (b : Int), 0⟩ = turnW w1 b (timeoutR n) := by
    have e : ((b : Int)).toNat = b := rfl
    unfold moveW
    rw [if_neg (by show ¬ (3 : Int) ≤ 2; decide), if_neg (by show ¬ (b : Int) < 0; omega)]
    show (match w1.ns[((b : Int)).toNat]? with | some n => _ | none => _) = _
    rw [e, hn1]
    show ownW w1 _ n = _
    unfold ownW
    rw [if_pos (show (3 : Int) = 3 from rfl)]
    rfl
  rcases hst with ⟨_, hro, hln⟩ | ⟨h7, _⟩
  case inr => omega
  obtain ⟨c1, c2, c3, c4, c5, c6, c7⟩ := cand_facts hh.fine
  have hcf := cand_fine hh.fine (by omega)
  have hct := cand_term n
  have hguard : timeoutR n = ⟨(leadS (candN n)).n, asksOf n ++ (leadS (candN n)).ks, 0⟩ := by
    unfold timeoutR
    rw [if_pos (fine_iff.2 hh.fine), if_neg (by rintro (h8 | h8) <;> omega)]
  have hszn : n.size.toNat = sz := by have := hh.size; omega
  have hs1 := hh.fine.s1
  have hsz := hh.size
  have hbl : b < w1.ns.length := (List.getElem?_eq_some_iff.1 hn1).1
  have hset : ∀ (x : Node) (u : Nat) (m : Node), u ≠ b → (w1.ns.set b x)[u]? = some m → w.ns[u]? = some m := fun x u m hu hx => by
    rw [← h1]; exact set_other hx hu
  have hself : ∀ x a, (w1.ns.set b x)[b]? = some a → a = x := fun x a hx => by
    rw [List.getElem?_set_self hbl] at hx
    exact (Option.some.inj hx).symm
  have hnw : ∀ m, Newest n m → Newest (candN n) m := fun m hm => by unfold Newest at hm ⊢; rw [c4]; exact hm
  have hcm : (candN n).me = (b : Int) := c1.trans hh.me
  have hcs : (candN n).size = (sz : Int) := c2.trans hh.size
  by_cases h1s : sz = 1
  · -- it leads at once
    have hen : enoughB (candN n) = true := by rw [c7]; exact decide_eq_true (by omega)
    have hlS : leadS (candN n) = ⟨winN (candN n), feedAllK (winN (candN n)), 0⟩ := by unfold leadS; rw [if_pos hen]
    obtain ⟨w1', w2', w3', w4', w5', w6', w7', w8'⟩ := win_first hcf hcm hcs (by omega)
    have hnone : ∀ a : Node, a.me = (b : Int) → othersL a sz = [] := fun a ha => by
      have hb0 : b = 0 := by omega
      have : ∀ k ∈ othersL a sz, False := fun k hk => by
        obtain ⟨k1, k2⟩ := others_mem hk
        have : k = 0 := by omega
        exact k2 (by rw [ha, hb0, this])
      exact List.eq_nil_iff_forall_not_mem.2 fun k hk => this k hk
    have hwm : (winN (candN n)).me = (b : Int) ∧ (winN (candN n)).size = (sz : Int) := by
      refine ⟨?_, ?_⟩
      · rw [← hcm]; unfold winN; split <;> rfl
      · rw [← hcs]; unfold winN; split <;> rfl
    have hks1 : asksOf n = [] := by
      unfold asksOf asksK
      rw [hszn, hnone _ hcm]
      rfl
    have hks2 : feedAllK (winN (candN n)) = [] := by
      unfold feedAllK
      have : (winN (candN n)).size.toNat = sz := by have := hwm.2; omega
      rw [this, hnone _ hwm.1]
      rfl
    rw [hguard, hlS, hks1, hks2] at hmv
    have hmv2 : moveW w1 ⟨3, (b : Int), 0⟩ = { w1 with ns := w1.ns.set b (winN (candN n)), us := [] } := by
      rw [hmv]
      unfold turnW
      rw [if_pos rfl]
      rw [h2]
      rfl
    rw [hmv2] at hnext ⊢
    obtain ⟨K', g', nf', Fs', h'⟩ := hnext
    have hat' : (w1.ns.set b (winN (candN n)))[b]? = some (winN (candN n)) := List.getElem?_set_self hbl
    have htop := hone h1s
    have hT : (candN n).log.term = top + 1 := by omega
    have hvac : ∀ (v : Nat) (a : Node), v ≠ b → (w1.ns.set b (winN (candN n)))[v]? = some a → False := fun v a hvb hx => by
      have := (h'.here hx).1
      omega
    have hlead := (h'.here hat').2.lead w1'
    rw [w3', hT] at hlead
    have hlast := (h'.here hat').2.link.last
    refine ⟨⟨K', S, g', nf', Fs', h'⟩, h.sz7, fun v a hx => ?_, fun v a hvb hx => (hvac v a hvb hx).elim, winN (candN n), hat', ?_, fun _ => by rw [w3']; omega, fun v a hvb hx => (hvac v a hvb hx).elim, .inr ⟨by rw [w3']; exact hT, .inr ?_⟩⟩
    · have hx : (w1.ns.set b (winN (candN n)))[v]? = some a := hx
      by_cases hvb : v = b
      · subst hvb
        rw [hself _ a hx, w4', c5]; omega
      · exact (hvac v a hvb hx).elim
    · rw [w3']; omega
    · have hpl := PL.first (b := b) (T := top + 1) (stale := []) h' h.sz7 hat' w1' w2' (w3'.trans hT) (by omega) (w5'.trans hT) w6' w7' w8' (fun v a hvb hx => (hvac v a hvb hx).elim) (by rw [hks2]; rfl) (fun k hk => by cases hk) (Nat.zero_le _)
      rw [hnone _ hwm.1] at hpl
      exact ⟨g', _, _, _, hpl, by rw [hlead.1]; rfl, by rw [← hlead.2.1]; omega⟩
  · have hen : enoughB (candN n) = false := by rw [c7]; exact decide_eq_false (by omega)
    have hlS : leadS (candN n) = ⟨candN n, [], 0⟩ := by unfold leadS; rw [if_neg (by rw [hen]; decide)]
    rw [hguard, hlS, List.append_nil] at hmv
    have hks : asksOf n = (othersL (candN n) sz).map (askQ (candN n)) := by
      unfold asksOf asksK askQ
      rw [hszn, c4]
    have hal : (asksOf n).length ≤ 7 := by rw [hks, List.length_map]; exact Nat.le_trans (others_len _ _) h.sz7
    have hmv2 : moveW w1 ⟨3, (b : Int), 0⟩ = { w1 with ns := w1.ns.set b (candN n), us := asksOf n } := by
      rw [hmv]
      unfold turnW
      rw [if_pos rfl]
      show ({ w1 with ns := _, us := w1.us ++ (asksOf n).take (256 - w1.us.length) } : WA) = _
      rw [h2, List.nil_append, List.take_of_length_le (by show _ ≤ 256 - 0; omega)]
    rw [hmv2] at hnext ⊢
    obtain ⟨K', g', nf', Fs', h'⟩ := hnext
    have hat' : (w1.ns.set b (candN n))[b]? = some (candN n) := List.getElem?_set_self hbl
    have hlens : ∀ (v : Nat) (a : Node), (w1.ns.set b (candN n))[v]? = some a → lastI a ≤ 230 := fun v a hx => by
      by_cases hvb : v = b
      · subst hvb
        rw [hself _ a hx, c5]; omega
      · exact h.lens v a (hset _ v a hvb hx)
    refine ⟨⟨K', S, g', nf', Fs', h'⟩, h.sz7, hlens, fun v a hvb hx => h.oth v a hvb (hset _ v a hvb hx), candN n, hat', by rw [hct]; omega, fun h8 => absurd h8 h1s, fun v a hvb hx => hnw a (hnew v a hvb (hset _ v a hvb hx)), ?_⟩
    by_cases hlt2 : (candN n).log.term ≤ top
    · exact .inl ⟨hlt2, by rw [c3]; decide, by rw [c5]; exact hln⟩
    · refine .inr ⟨by omega, .inl ⟨othersL (candN n) sz, ⟨⟨K', S, g', nf', Fs', h'⟩, h.sz7, hat', c3, by omega, hen, hlens, ?_, ?_, fun v hv => ?_, others_nd _ _, fun v a hvb hx => ?_, fun v hv hva _ => ?_⟩⟩⟩
      · show asksOf n = (othersL (candN n) sz).map (askQ (candN n)) ++ []
        rw [List.append_nil]; exact hks
      · exact Nat.le_trans (others_len _ _) h.sz7
      · rw [List.append_nil] at hv
        obtain ⟨k1, k2⟩ := others_mem hv
        exact ⟨k1, fun he => k2 (by rw [he]; exact hcm.symm)⟩
      · have hx1 := hset _ v a hvb hx
        have := h.oth v a hvb hx1
        exact .inl ⟨others_in (h'.here hx).1 (by rw [hcm]; omega), by omega, hnw a (hnew v a hvb hx1)⟩
      · have hvb : v = b := by
          refine Classical.byContradiction fun hvb => hva (others_in hv (by rw [hcm]; omega))
        have e : n.me.toNat = b := by have := hh.me; omega
        rw [hvb, ← e]
        exact c6
/-- The election, and until nothing is under way. -/
theorem TL.drain (h : TL sz b top i w) {n : Node} (hn : w.ns[b]? = some n) (hgt : top < n.log.term) : Rest sz b (top + 1) (drainW 16384 w) := by
  obtain ⟨nb, hat, _, _, _, hst⟩ := h.st
  rw [hn] at hat
  cases hat
  rcases hst with ⟨h1, _⟩ | ⟨_, h2⟩
  · omega
  · rcases h2 with ⟨asks, h3⟩ | ⟨g, nb, Fs, q, h3, h4, h5⟩
    · have hul := h3.ul
      have hl0 : ([] : List Nat).length = 0 := rfl
      exact h3.drain _ _ _ _ _ (by omega)
    · obtain ⟨nb2, Fs2, q2, h6⟩ := PL.drain 16384 nb Fs q [] [] w h3 (by have := h3.mu_le; omega)
      exact ⟨g, nb2, Fs2, q2, h6, h4, h5⟩
end
end Go.Proofs.Ytjpjiniclibgkaa.Sx

namespace Go.Proofs.Ytjpjiniclibgkaa.Sx
open Go Safe

/-- A world that can be. -/
def World7 (w : WA) : Prop := ∃ sz K S g nf Fs, sz ≤ 7 ∧ Inv sz K S g nf Fs w
theorem World7.mild {y : Wld} (h : World7 y.abs) : Mild y := by
  obtain ⟨sz, K, S, g, nf, Fs, h7, h⟩ := h
  exact h.mild h7
theorem World7.next {w : WA} (h : World7 w) (x : MoveV) (hx : x.kind ≤ 6) : World7 (moveW w x) := by
  obtain ⟨sz, K, S, g, nf, Fs, h7, h⟩ := h
  obtain ⟨K', g', nf', Fs', h'⟩ := h.next x hx
  exact ⟨sz, K', S, g', nf', Fs', h7, h'⟩
structure DrainG where
  y : Wld
  m : Mem
structure DrainL where
  i : Nat
  y : Wld
  m : Mem
def drainSpec : Spec where
  A := DrainG
  R := fun ⟨y, m⟩ => InM m y ∧ World7 y.abs
  J := fun ⟨_, m⟩ => m
  args := fun _ => [.p 0 0]
  h := fun ⟨y, _⟩ => worldH 1 2 3 4 5 6 y
  nx := 7
  Bb := Wld × Mem
  C := fun ⟨y, m⟩ ⟨y', m'⟩ => y'.abs = drainW 16384 y.abs ∧ InM m' y' ∧ ∀ b o, m b = some o → m' b = some o
  out := fun _ _ => .ret (.t [])
  h2 := fun _ ⟨y', _⟩ => worldH 7 8 9 10 11 12 y'
  nx2 := 13
  J2 := fun _ ⟨_, m'⟩ => m'
  ext := true
theorem drain_nil {m : Nat} {w : WA} (h : w.us = []) : drainW m w = w := by
  cases m with
  | zero => rfl
  | succ m =>
    rw [drainW]
    split
    · rfl
    · rename_i hw
      rw [h] at hw
      cases hw
theorem drain_one {i : Nat} {w : WA} (hi : i < 16384) (h : w.us ≠ []) : drainW (16384 - i) w = drainW (16384 - (i + 1)) (moveW w ⟨0, 0, 0⟩) := by
  have e : 16384 - i = (16384 - (i + 1)) + 1 := by omega
  rw [e, drainW]
  split
  · rename_i hw
    exact absurd hw h
  · rfl
theorem ite_and {a b : Bool} : (if a = true then b else false) = true → a = true ∧ b = true := by cases a <;> simp
theorem ite_or {a b : Bool} : (if a = true then b else false) = false → a = false ∨ b = false := by cases a <;> simp
set_option maxRecDepth 100000 in
set_option maxHeartbeats 4000000 in
theorem drain_ok : SpecOk Try.prog 44 drainSpec := by
  refine spec_of_exec (fn := Try.f44) (c := Try.f44.body.getD .skip) (d := 1) (lv := ([0, 2, 12])) (DP := DPy T1 (CPs S30) ([0, 2, 12])) T1_ok S30_ok (fun B => DPy_ok T1_ok ord S30_ok B) drainSpec (by rfl) (by rfl) (by rfl) (fun _ => Nat.le_of_ble_eq_true (by kernel_rfl)) ?_
  rintro ⟨y0, m⟩ ⟨hI0, hW0⟩
  conv => whnf
  refine ⟨DrainL, fun ⟨i, y, m1⟩ => i ≤ 16384 ∧ drainW (16384 - i) y.abs = drainW 16384 y0.abs ∧ InM m1 y ∧ World7 y.abs ∧ ∀ b o, m b = some o → m1 b = some o, fun ⟨i, y, _⟩ => ⟨18, [⟨0, [], .p 0 0⟩, ⟨2, [], .i .i64 i⟩], [], worldH 7 8 9 10 11 12 y, 13⟩, fun x => x.m, fun x => 16384 - x.i, ⟨⟨0, y0, m⟩, rfl, ⟨Nat.zero_le _, rfl, hI0, hW0, fun _ _ h => h⟩, ?_⟩, ?_⟩
  conv => whnf
  · conv => whnf
    repeat (first | exact trivial | (refine ⟨by first | exact ⟨rfl, rfl, rfl⟩ | rfl | exact ⟨rfl, rfl⟩ | exact ⟨rfl, fun _ _ => rfl⟩ | exact fun _ _ h => h | (intro _ _ h; cases h; done), ?_⟩; conv => whnf))
  rintro ⟨i, y, m1⟩ ⟨hi, hd, hI, hW, hx⟩
  conv => whnf
  refine ⟨fun hl => ?_, fun hl => ?_⟩
  · obtain ⟨h1, h2⟩ := ite_and hl
    have h1 : (i : Int) < 16384 := of_decide_eq_true h1
    have h2 : (y.us.length : Int) > 0 := of_decide_eq_true h2
    have hne : y.abs.us ≠ [] := fun h => by
      have h3 : (y.us.map (·.k)).length = 0 := by
        have : y.us.map (·.k) = [] := h
        rw [this]; rfl
      rw [List.length_map] at h3
      omega
    have hone := drain_one (i := i) (by omega) hne
    conv => whnf
    refine ⟨⟨y, ⟨0, 0, 0⟩, m1⟩, ⟨hI, hW.mild⟩, ?_⟩
    conv => whnf
    repeat (first | exact trivial | (refine ⟨by first | exact ⟨rfl, rfl, rfl⟩ | rfl | exact ⟨rfl, rfl⟩ | exact ⟨rfl, fun _ _ => rfl⟩ | exact fun _ _ h => h | (intro _ _ h; cases h; done), ?_⟩; conv => whnf))
    rintro ⟨y', m'⟩ ⟨habs, hin, hx'⟩ m8 h28 h78
    have hin8 : InM m8 y' := hin.ext h78
    have habs : y'.abs = moveW y.abs ⟨0, 0, 0⟩ := habs
    have hW' : World7 y'.abs := by rw [habs]; exact hW.next _ (by decide)
    have hd' : drainW (16384 - (i + 1)) y'.abs = drainW 16384 y0.abs := by rw [habs, ← hone]; exact hd
    conv => whnf
    refine ⟨⟨i + 1, y', m8⟩, rfl, ⟨⟨by omega, hd', hin8, hW', fun b o h => h28 b o (hx b o h)⟩, by show 16384 - (i + 1) < 16384 - i; omega⟩, ?_⟩
    conv => whnf
    repeat (first | exact trivial | (refine ⟨by first | exact ⟨rfl, rfl, rfl⟩ | rfl | exact ⟨rfl, rfl⟩ | exact ⟨rfl, fun _ _ => rfl⟩ | exact fun _ _ h => h | (intro _ _ h; cases h; done) | exact wrapi_succ (by omega), ?_⟩; conv => whnf))
  · have hend : drainW (16384 - i) y.abs = y.abs := by
      rcases ite_or hl with h1 | h1
      · have h1 : ¬ (i : Int) < 16384 := of_decide_eq_false h1
        have e : 16384 - i = 0 := by omega
        rw [e]; rfl
      · have h1 : ¬ (y.us.length : Int) > 0 := of_decide_eq_false h1
        have h2 : y.us = [] := List.eq_nil_of_length_eq_zero (by omega)
        exact drain_nil (by show y.us.map (·.k) = []; rw [h2]; rfl)
    conv => whnf
    refine ⟨(y, m1), ⟨by rw [← hd, hend], hI, hx⟩, ?_⟩
    conv => whnf
    repeat (first | exact trivial | exact fun _ _ h => h | (refine ⟨by first | exact ⟨rfl, rfl, rfl⟩ | rfl | exact ⟨rfl, rfl⟩ | exact ⟨rfl, fun _ _ => rfl⟩ | exact fun _ _ h => h | (intro _ _ h; cases h; done), ?_⟩; conv => whnf))
    try exact ⟨hx, fun _ _ h => h⟩
end Go.Proofs.Ytjpjiniclibgkaa.Sx

namespace Go.Proofs.Ytjpjiniclibgkaa.Sx
open Go Safe

section
variable {g : Gh Item} {T c top : Int} {b sz K S i : Nat} {nb n : Node} {nf : Nat → Node} {Fs : Nat → List Item} {q : Nat → Msg} {w : WA}
theorem newR_fine (hf : Fine n) : newR n.me n.size n.log = ⟨⟨n.me, n.size, n.log, 0, -1, n.log.base, 0, fun _ => 0, fun _ => 0⟩, [], 0⟩ := by
  have hg := fine_iff.2 hf
  unfold goodB at hg
  simp only [Bool.and_eq_true, Bool.not_eq_true', Bool.or_eq_false_iff] at hg
  have h2 : goodLogB n.log n.size = true := by simpa using hg.1.2
  have h3 := hf.s1; have h4 := hf.s2; have h5 := hf.m1; have h6 := hf.m2
  have hb : newB n.me n.size n.log = true := by
    unfold newB
    rw [h2, decide_eq_false (by omega : ¬ n.size < 1), decide_eq_false (by omega : ¬ n.size > 7), decide_eq_false (by omega : ¬ n.me < 0), decide_eq_false (by omega : ¬ n.me ≥ n.size)]
    rfl
  unfold newR
  rw [if_pos hb]
/-- All moves that a law makes are made of worlds that can be. -/
theorem TL.start (h : Inv sz K S g nf Fs w) (h7 : sz ≤ 7) (hK : K ≤ 200) (hn : w.ns[b]? = some n) (ht : ∀ (v : Nat) (m : Node), w.ns[v]? = some m → Newest n m ∧ m.log.term ≤ top) (hone : sz = 1 → top ≤ n.log.term) :
    moveW w ⟨6, (b : Int), 0⟩ = { w with ns := w.ns.set b (newR n.me n.size n.log).n } ∧ (newR (b : Int) (sz : Int) n.log) = newR n.me n.size n.log ∧ (newR n.me n.size n.log).e = 0 ∧ TL sz b top 0 (moveW w ⟨6, (b : Int), 0⟩) := by
  obtain ⟨hbs, hh⟩ := h.here hn
  have e1 : newR (b : Int) (sz : Int) n.log = newR n.me n.size n.log := by rw [hh.me, hh.size]
  have hnew := newR_fine hh.fine
  have hmv : moveW w ⟨6, (b : Int), 0⟩ = { w with ns := w.ns.set b (newR n.me n.size n.log).n } := by
    have e : ((b : Int)).toNat = b := rfl
    have h1 : moveW w ⟨6, (b : Int), 0⟩ = turnW w b (newR (b : Int) (w.ns.length : Int) n.log) := by
      unfold moveW
      rw [if_neg (by show ¬ (6 : Int) ≤ 2; decide), if_neg (by show ¬ (b : Int) < 0; omega)]
      show (match w.ns[((b : Int)).toNat]? with | some n => _ | none => _) = _
      rw [e, hn]
      show ownW w _ n = _
      unfold ownW
      rw [if_neg (show ¬ (6 : Int) = 3 by decide), if_neg (show ¬ (6 : Int) = 4 by decide), if_neg (show ¬ (6 : Int) = 5 by decide), if_pos (show (6 : Int) = 6 from rfl)]
      rfl
    rw [h1, h.len, e1, hnew]
    unfold turnW
    rw [if_pos rfl]
    show ({ w with ns := _, us := w.us ++ ([] : List Msg).take _ } : WA) = _
    rw [List.take_nil, List.append_nil]
  have hnext := h.next ⟨6, (b : Int), 0⟩ (by show (6 : Int) ≤ 6; decide)
  refine ⟨hmv, e1, by rw [hnew], ?_⟩
  rw [hmv] at hnext ⊢
  obtain ⟨K', g', nf', Fs', h'⟩ := hnext
  have hlens : ∀ (v : Nat) (m : Node), w.ns[v]? = some m → lastI m ≤ 200 := fun v m hm => by
    obtain ⟨hv, hhm⟩ := h.here hm
    have h1 := hhm.link.last
    have h2 := h.wi.lenF v hv
    omega
  have hset : ∀ (u : Nat) (m : Node), u ≠ b → (w.ns.set b (newR n.me n.size n.log).n)[u]? = some m → w.ns[u]? = some m := fun u m hu hx => set_other hx hu
  have hbl : b < w.ns.length := (List.getElem?_eq_some_iff.1 hn).1
  have hli : lastI (newR n.me n.size n.log).n = lastI n := by rw [hnew]; rfl
  have hlog : (newR n.me n.size n.log).n.log = n.log := by rw [hnew]
  have ht1 := hh.fine.t1
  refine ⟨⟨K', S, g', nf', Fs', h'⟩, h7, fun v m hx => ?_, fun v m hvb hx => (ht v m (hset v m hvb hx)).2, (newR n.me n.size n.log).n, List.getElem?_set_self hbl, by rw [hlog]; exact ht1, fun h1 => by rw [hlog]; exact hone h1, fun v m hvb hx => ?_, .inl ⟨?_, ?_, ?_⟩⟩
  · by_cases hvb : v = b
    · subst hvb
      have hx : (w.ns.set v (newR n.me n.size n.log).n)[v]? = some m := hx
      rw [List.getElem?_set_self hbl] at hx
      cases hx
      rw [hli]
      have := hlens v n hn
      omega
    · have := hlens v m (hset v m hvb hx)
      omega
  · have := (ht v m (hset v m hvb hx)).1
    unfold Newest at this ⊢
    rw [hlog]
    exact this
  · rw [hlog]; exact (ht b n hn).2
  · rw [hnew]; show ¬ (0 : Int) = 2; decide
  · rw [hli]; have := hlens b n hn; omega
theorem own_kind (hn : w.ns[b]? = some n) {k : Int} (hk : ¬ k ≤ 2) : moveW w ⟨k, (b : Int), 0⟩ = ownW w ⟨k, (b : Int), 0⟩ n := by
  have e : ((b : Int)).toNat = b := rfl
  unfold moveW
  rw [if_neg hk, if_neg (by show ¬ (b : Int) < 0; omega)]
  show (match w.ns[((b : Int)).toNat]? with | some n => _ | none => _) = _
  rw [e, hn]
/-- What is proposed to the leader, until nothing is under way. -/
theorem Rest.prop (h : Rest sz b T w) : ∃ g nb Fs q, PL sz b T 0 g nb Fs q [] [] (drainW 16384 (moveW w ⟨5, (b : Int), 0⟩)) := by
  obtain ⟨g, nb, Fs, q, h, hld, hN⟩ := h
  obtain ⟨i1, i2, i3⟩ := h.idle
  have hlast := h.lead.link.last
  have hlen := h.lead.link.len
  have hb1 := h.lead.fine.b1
  have hmv : moveW w ⟨5, (b : Int), 0⟩ = turnW { w with ct := IntKind.i64.wrap (w.ct + 1) } b (proS nb (seqE (IntKind.i64.wrap (w.ct + 1)))) := by
    rw [own_kind h.at' (by decide)]
    unfold ownW
    rw [if_neg (show ¬ (5 : Int) = 3 by decide), if_neg (show ¬ (5 : Int) = 4 by decide), if_pos (show (5 : Int) = 5 from rfl)]
    rfl
  by_cases hv : validB (seqE (IntKind.i64.wrap (w.ct + 1))) = true
  · have hpr : proS nb (seqE (IntKind.i64.wrap (w.ct + 1))) = ⟨putN nb (seqE (IntKind.i64.wrap (w.ct + 1))), feedAllK (putN nb (seqE (IntKind.i64.wrap (w.ct + 1)))), 0⟩ := by
      unfold proS proposeR
      rw [if_pos ⟨fine_iff.2 h.lead.fine, hv⟩, if_pos h.lead.role, if_pos (by omega)]
    have hfl : (feedAllK (putN nb (seqE (IntKind.i64.wrap (w.ct + 1))))).length ≤ 8 := by
      unfold feedAllK
      rw [List.length_map]
      have h1 := others_len (putN nb (seqE (IntKind.i64.wrap (w.ct + 1)))) (putN nb (seqE (IntKind.i64.wrap (w.ct + 1)))).size.toNat
      have h2 : (putN nb (seqE (IntKind.i64.wrap (w.ct + 1)))).size = nb.size := rfl
      have h3 := h.sz7
      have h4 := h.lead.size
      rw [h2] at h1 ⊢
      omega
    have hw' : turnW { w with ct := IntKind.i64.wrap (w.ct + 1) } b (proS nb (seqE (IntKind.i64.wrap (w.ct + 1)))) = { w with ct := IntKind.i64.wrap (w.ct + 1), ns := w.ns.set b (putN nb (seqE (IntKind.i64.wrap (w.ct + 1)))), us := feedAllK (putN nb (seqE (IntKind.i64.wrap (w.ct + 1)))) } := by
      rw [hpr]
      unfold turnW
      rw [if_pos rfl]
      show ({ w with ct := _, ns := _, us := w.us ++ (feedAllK _).take (256 - w.us.length) } : WA) = _
      rw [i1, List.nil_append, List.take_of_length_le (by show _ ≤ 256 - 0; omega)]
    have hpl := h.add hld (by omega) hv (w' := moveW w ⟨5, (b : Int), 0⟩) (by rw [hmv, hw']) (by rw [hmv, hw'])
    obtain ⟨nb2, Fs2, q2, h6⟩ := PL.drain 16384 _ _ _ _ _ _ hpl (by have := hpl.mu_le; omega)
    exact ⟨_, nb2, Fs2, q2, h6⟩
  · have hpr : (proS nb (seqE (IntKind.i64.wrap (w.ct + 1)))).e ≠ 0 := by
      unfold proS proposeR
      rw [if_neg fun h1 => hv h1.2]
      show (1 : Int) ≠ 0
      decide
    have hw' : moveW w ⟨5, (b : Int), 0⟩ = { w with ct := IntKind.i64.wrap (w.ct + 1) } := by
      rw [hmv]
      unfold turnW
      rw [if_neg hpr]
    have hpl : PL sz b T 0 g nb Fs q [] [] (moveW w ⟨5, (b : Int), 0⟩) := by
      rw [hw']
      exact ⟨h.len, h.sz7, h.at', h.lead, h.lg, h.l240, h.fo, h.qu, h.st, h.sl, h.ul, h.nd, h.vl, h.cb, h.cc, h.ms, h.id⟩
    rw [drain_nil hpl.qu]
    exact ⟨g, nb, Fs, q, hpl⟩
/-- The leader beats, until nothing is under way. -/
theorem PL.beats (h : PL sz b T 0 g nb Fs q [] [] w) : ∃ nb Fs q, PL sz b T (lastI nb) g nb Fs q [] [] (drainW 16384 (moveW w ⟨4, (b : Int), 0⟩)) := by
  obtain ⟨i1, i2, i3⟩ := h.idle
  have hmv : moveW w ⟨4, (b : Int), 0⟩ = turnW w b (beatR nb) := by
    rw [own_kind h.at' (by decide)]
    unfold ownW
    rw [if_neg (show ¬ (4 : Int) = 3 by decide), if_pos (show (4 : Int) = 4 from rfl)]
    rfl
  have hbr : beatR nb = ⟨nb, feedAllK nb, 0⟩ := by
    unfold beatR
    rw [if_pos (fine_iff.2 h.lead.fine), if_pos h.lead.role]
  have hfl : (feedAllK nb).length ≤ 8 := by
    unfold feedAllK
    rw [List.length_map]
    have h1 := others_len nb nb.size.toNat
    have h3 := h.sz7
    have h4 := h.lead.size
    omega
  have hw' : moveW w ⟨4, (b : Int), 0⟩ = { w with ns := w.ns.set b nb, us := feedAllK nb } := by
    rw [hmv, hbr]
    unfold turnW
    rw [if_pos rfl]
    show ({ w with ns := _, us := w.us ++ (feedAllK _).take (256 - w.us.length) } : WA) = _
    rw [i1, List.nil_append, List.take_of_length_le (by show _ ≤ 256 - 0; omega)]
  have hpl := h.beat (w' := moveW w ⟨4, (b : Int), 0⟩) (by rw [hw']; exact set_same h.at') (by rw [hw'])
  obtain ⟨nb2, Fs2, q2, h6⟩ := PL.drain 16384 _ _ _ _ _ _ hpl (by have := hpl.mu_le; omega)
  have e : lastI nb2 = lastI nb := by rw [h6.lead.link.last, h.lead.link.last]
  rw [← e] at h6
  exact ⟨nb2, Fs2, q2, h6⟩
end
end Go.Proofs.Ytjpjiniclibgkaa.Sx

namespace Go.Proofs.Ytjpjiniclibgkaa.Sx
open Go Safe

def S31 : List (Nat × Spec) := (44, drainSpec) :: S30
theorem S31_all : ∀ f s, findS S31 f = some s → SpecOk Try.prog f s := CP_cons S30_all drain_ok
theorem S31_ok : CPOk Try.prog (CPs S31) := CPs_ok S31_all
structure MovesG where
  size : Int
  xs : List MoveV
  B : Option Addr
  c : Nat
  who : Int
  m : Mem
def lawMovesSpec : Spec where
  A := MovesG
  R := fun ⟨_, xs, B, c, _, m⟩ => Cells m B (movesV xs) ∧ xs.length ≤ c ∧ xs.length < 2 ^ 62
  J := fun ⟨_, _, _, _, _, m⟩ => m
  args := fun ⟨size, xs, B, c, who, _⟩ => [.i .i64 size, .sl B xs.length c, .i .i64 who]
  h := fun _ => []
  nx := 0
  Bb := Unit
  C := fun _ _ => True
  out := fun _ _ => .ret (.b true)
  h2 := fun _ _ => []
  nx2 := 0
theorem ors5 {a b c d e : Bool} : (if (if (if (if a = true then true else b) = true then true else c) = true then true else d) = true then true else e) = false → a = false ∧ b = false ∧ c = false ∧ d = false ∧ e = false := by cases a <;> cases b <;> cases c <;> cases d <;> cases e <;> simp
/-- A world on the way of the moves. -/
structure Roams (sz i : Nat) (g : Gh Item) (nf : Nat → Node) (Fs : Nat → List Item) (y : Wld) (m : Mem) : Prop where
  inv : Inv sz i 1000 g nf Fs y.abs
  mem : InM m y
  tl : ∀ n ∈ y.abs.ns, n.log.term ≤ (i : Int)
theorem Roams.step {sz i : Nat} {g : Gh Item} {nf : Nat → Node} {Fs : Nat → List Item} {y y' : Wld} {m m' : Mem} (h : Roams sz i g nf Fs y m) (hi : i ≤ 1000) {x : MoveV} (habs : y'.abs = moveW y.abs x) (hin : InM m' y') : ∃ g' nf' Fs', Roams sz (i + 1) g' nf' Fs' y' m' := by
  have hc : ∀ n ∈ y.abs.ns, n.commit.toNat ≤ 1000 := fun n hn => by
    obtain ⟨v, hv⟩ := List.getElem?_of_mem hn
    obtain ⟨hvs, hh⟩ := h.inv.here hv
    have h1 := hh.fine.c2
    have h2 := hh.link.last
    have h3 := h.inv.wi.lenF v hvs
    omega
  obtain ⟨g', nf', Fs', h'⟩ := h.inv.moved hc hi x
  have ht := h.inv.terms h.tl x
  rw [← habs] at h' ht
  exact ⟨g', nf', Fs', h', hin, fun n hn => by have := ht n hn; omega⟩
theorem roams_begin {sz : Nat} (h1 : 1 ≤ sz) (h7 : sz ≤ 7) {ns : List NP} {m : Mem} (hF : Newly (sz : Int) ns m sz) : ∃ g nf Fs, Roams sz 0 g nf Fs ⟨ns, [], [], [], [], [], 0⟩ m := by
  obtain ⟨g, nf, Fs, h⟩ := going_begin h1 h7 hF
  refine ⟨g, nf, Fs, ⟨h.inv.len, h.inv.same, h.inv.wi.less (fun _ hm => hm) (Nat.zero_le _) (Nat.le_refl _), h.inv.seen, h.inv.led, h.inv.ul⟩, h.mem, fun n hn => ?_⟩
  obtain ⟨z, hz, rfl⟩ := List.mem_map.1 hn
  obtain ⟨v, hv⟩ := List.getElem?_of_mem hz
  rw [(hF.n v z hv).1]
  exact Int.le_refl _
structure RoamW where
  i : Nat
  y : Wld
  m : Mem
  g : Gh Item
  nf : Nat → Node
  Fs : Nat → List Item
theorem np_field {ys : List NP} {i : Nat} {y : NP} (h : ys[i]? = some y) (f k : Nat) (hf : f + k ≤ 26) : ((npsV ys).drop (i * 26 + f)).take k = ((npV y).drop f).take k := by
  have hd : ys.drop i = y :: ys.drop (i + 1) := by
    rw [List.drop_eq_getElem_cons (List.getElem?_eq_some_iff.1 h).1, (List.getElem?_eq_some_iff.1 h).2]
  have hl : (npV y).length = 26 := npV_len y
  rw [← List.drop_drop, npsV_drop, hd]
  show ((npV y ++ npsV _).drop f).take k = _
  rw [List.drop_append_of_le_length (by rw [hl]; omega), List.take_append_of_le_length (by rw [List.length_drop, hl]; omega)]
theorem np_log {ys : List NP} {i : Nat} {y : NP} (h : ys[i]? = some y) : i * 26 + 2 + 6 ≤ (npsV ys).length ∧ dens η0 (logC y.n.log (.sl y.A y.n.log.items.length y.c)) = ((npsV ys).drop (i * 26 + 2)).take 6 := by
  refine ⟨by have := np_le h; omega, ?_⟩
  rw [np_field h 2 6 (by omega)]
  rfl
theorem np_int {ys : List NP} {i : Nat} {y : NP} (h : ys[i]? = some y) {f : Nat} {t : Int} (hf : f + 1 ≤ 26) (ht : ((npV y).drop f).take 1 = [.int .i64 t]) : i * 26 + f + 1 ≤ (npsV ys).length ∧ [Value.int .i64 t] = ((npsV ys).drop (i * 26 + f)).take 1 := by
  refine ⟨by have := np_le h; omega, ?_⟩
  rw [np_field h f 1 hf, ht]
theorem np_val {ys : List NP} {i : Nat} {y : NP} (h : ys[i]? = some y) {f : Nat} {t : Value} (hf : f + 1 ≤ 26) (ht : ((npV y).drop f).take 1 = [t]) : i * 26 + f + 1 ≤ (npsV ys).length ∧ [t] = ((npsV ys).drop (i * 26 + f)).take 1 := by
  refine ⟨by have := np_le h; omega, ?_⟩
  rw [np_field h f 1 hf, ht]
structure BestL where
  i : Nat
  best : Nat
  top : Int
theorem TL.node {sz b i : Nat} {top : Int} {y : Wld} (h : TL sz b top i y.abs) : ∃ z, y.ns[b]? = some z := by
  obtain ⟨nb, hat, _⟩ := h.st
  have hat : (y.ns.map (·.n))[b]? = some nb := hat
  rw [List.getElem?_map] at hat
  obtain ⟨z, hz, _⟩ := Option.map_eq_some_iff.1 hat
  exact ⟨z, hz⟩
theorem TL.world {sz b i : Nat} {top : Int} {w : WA} (h : TL sz b top i w) : World7 w := by
  obtain ⟨K, S, g, nf, Fs, hI⟩ := h.inv
  exact ⟨sz, K, S, g, nf, Fs, h.sz7, hI⟩
theorem TL.none {sz b i : Nat} {top : Int} {ns : List NP} {us : List OMsg} {ts ls : List Int} {su : List Item} {si : List Int} {ct : Int} (h : TL sz b top i (Wld.abs ⟨ns, us, ts, ls, su, si, ct⟩)) : World7 (Wld.abs ⟨ns, [], ts, ls, su, si, ct⟩) := by
  obtain ⟨K, S, g, nf, Fs, hI⟩ := h.inv
  exact ⟨sz, K, S, g, nf, Fs, h.sz7, hI.less (w' := Wld.abs ⟨ns, [], ts, ls, su, si, ct⟩) rfl (fun m hm => by have hm : m ∈ ([] : List Msg) := hm; cases hm) (Nat.zero_le _) rfl rfl rfl rfl (Nat.le_refl _)⟩
theorem TL.over {sz b i : Nat} {top : Int} {w : WA} {n : Node} (h : TL sz b top i w) (htop : top ≤ 200) (hn : w.ns[b]? = some n) (hor : 300 ≤ i ∨ ¬ n.log.term ≤ top) : top < n.log.term := by
  obtain ⟨nb, hat, hi, _⟩ := h.st
  rw [hn] at hat
  cases hat
  rcases hor with h1 | h1 <;> omega
theorem World7.drain {w : WA} (h : World7 w) : World7 (drainW 16384 w) := by
  obtain ⟨sz, K, S, g, nf, Fs, h7, h⟩ := h
  obtain ⟨K', g', nf', Fs', h'⟩ := Inv.drain 16384 K g nf Fs w h
  exact ⟨sz, K', S, g', nf', Fs', h7, h'⟩
theorem abs_node {y : Wld} {b : Nat} {nb : Node} (h : y.abs.ns[b]? = some nb) : ∃ z, y.ns[b]? = some z ∧ z.n = nb := by
  have h : (y.ns.map (·.n))[b]? = some nb := h
  rw [List.getElem?_map] at h
  obtain ⟨z, hz, hn⟩ := Option.map_eq_some_iff.1 h
  exact ⟨z, hz, hn⟩
theorem Rest.node {sz b : Nat} {T : Int} {y : Wld} (h : Rest sz b T y.abs) : ∃ z, y.ns[b]? = some z ∧ z.n.role = 2 ∧ z.n.log.items.length < 256 := by
  obtain ⟨g, nb, Fs, q, h, _, hN⟩ := h
  obtain ⟨z, hz, hzn⟩ := abs_node h.at'
  have h1 := h.lead.link.len
  have h2 := h.lead.fine.b1
  refine ⟨z, hz, by rw [hzn]; exact h.lead.role, ?_⟩
  rw [hzn]
  omega
theorem beats_all {sz b : Nat} {T : Int} {w : WA} (h : ∃ g nb Fs q, PL sz b T 0 g nb Fs q [] [] w) : ∃ g nb Fs q, PL sz b T (lastI nb) g nb Fs q [] [] (drainW 16384 (moveW w ⟨4, (b : Int), 0⟩)) := by
  obtain ⟨g, nb, Fs, q, h⟩ := h
  obtain ⟨nb', Fs', q', h'⟩ := h.beats
  exact ⟨g, nb', Fs', q', h'⟩
theorem done_all {sz b : Nat} {T : Int} {y : Wld} (h : ∃ g nb Fs q, PL sz b T (lastI nb) g nb Fs q [] [] y.abs) : ∃ zb, y.ns[b]? = some zb ∧ Fine zb.n ∧ ∀ (v : Nat) (z : NP), y.ns[v]? = some z → z.n.commit = (lastN zb.n.log).1 ∧ z.n.lead = (b : Int) ∧ z.n.log.term = zb.n.log.term := by
  obtain ⟨g, nb, Fs, q, h⟩ := h
  obtain ⟨zb, hzb, hn⟩ := abs_node h.at'
  refine ⟨zb, hzb, by rw [hn]; exact h.lead.fine, fun v z hz => ?_⟩
  rw [hn]
  exact h.done (by show (y.ns.map (·.n))[v]? = _; rw [List.getElem?_map, hz]; rfl)
structure TimeL where
  i : Nat
  y : Wld
  m : Mem
/-- Of the nodes looked at so far: the one whose log is newest, the highest term. -/
def Bests (ns : List NP) (i best : Nat) (top : Int) : Prop := best < ns.length ∧ 0 ≤ top ∧ (∀ zb, ns[best]? = some zb → ∀ (v : Nat) (z : NP), v < i → ns[v]? = some z → Newest zb.n z.n ∧ z.n.log.term ≤ top) ∧ (top = 0 ∨ ∃ (v : Nat) (z : NP), ns[v]? = some z ∧ z.n.log.term = top)
theorem newer_yes {s t a b : Int} : (if decide (t > s) = true then true else if (t == s) = true then decide (b > a) else false) = true → t > s ∨ (t = s ∧ b > a) := by
  intro h
  by_cases h1 : t > s
  · exact .inl h1
  · rw [if_neg (by rw [decide_eq_false h1]; decide)] at h
    by_cases h2 : t = s
    · rw [if_pos (by rw [h2]; exact beq_self_eq_true s)] at h
      exact .inr ⟨h2, of_decide_eq_true h⟩
    · rw [if_neg (by simpa using h2)] at h
      cases h
theorem newer_no {s t a b : Int} : (if decide (t > s) = true then true else if (t == s) = true then decide (b > a) else false) = false → s > t ∨ (s = t ∧ a ≥ b) := by
  intro h
  by_cases h1 : t > s
  · rw [if_pos (decide_eq_true h1)] at h
    cases h
  · rw [if_neg (by rw [decide_eq_false h1]; decide)] at h
    by_cases h2 : t = s
    · rw [if_pos (by rw [h2]; exact beq_self_eq_true s)] at h
      have := of_decide_eq_false h
      exact .inr ⟨h2.symm, by omega⟩
    · exact .inl (by omega)
theorem Bests.top {ns : List NP} {i best : Nat} {top : Int} {z : NP} (h : Bests ns i best top) (hz : ns[i]? = some z) : 0 ≤ max top z.n.log.term ∧ (max top z.n.log.term = 0 ∨ ∃ (v : Nat) (a : NP), ns[v]? = some a ∧ a.n.log.term = max top z.n.log.term) := by
  have h0 := h.2.1
  refine ⟨by omega, ?_⟩
  by_cases hm : top ≤ z.n.log.term
  · exact .inr ⟨i, z, hz, by omega⟩
  · have e : max top z.n.log.term = top := by omega
    rw [e]
    exact h.2.2.2
theorem max_if (a b : Int) : (if a < b then b else a) = max a b := by split <;> omega
theorem newest_trans {a b c : Node} (h : (lastN a.log).2 > (lastN b.log).2 ∨ ((lastN a.log).2 = (lastN b.log).2 ∧ (lastN a.log).1 > (lastN b.log).1)) (h2 : Newest b c) : Newest a c := by
  unfold Newest at h2 ⊢
  omega
theorem Bests.yes {ns : List NP} {i best : Nat} {top : Int} {z zb : NP} (h : Bests ns i best top) (hz : ns[i]? = some z) (hzb : ns[best]? = some zb) (hn : (lastN z.n.log).2 > (lastN zb.n.log).2 ∨ ((lastN z.n.log).2 = (lastN zb.n.log).2 ∧ (lastN z.n.log).1 > (lastN zb.n.log).1)) : Bests ns (i + 1) i (max top z.n.log.term) := by
  obtain ⟨t1, t2⟩ := h.top hz
  refine ⟨(List.getElem?_eq_some_iff.1 hz).1, t1, fun a ha v y hv hy => ?_, t2⟩
  rw [hz] at ha
  cases ha
  rcases Nat.lt_succ_iff_lt_or_eq.1 hv with h1 | h1
  · obtain ⟨h2, h3⟩ := h.2.2.1 zb hzb v y h1 hy
    exact ⟨newest_trans hn h2, by omega⟩
  · rw [h1, hz] at hy
    cases hy
    exact ⟨.inr ⟨rfl, Int.le_refl _⟩, by omega⟩
theorem Bests.no {ns : List NP} {i best : Nat} {top : Int} {z zb : NP} (h : Bests ns i best top) (hz : ns[i]? = some z) (hzb : ns[best]? = some zb) (hn : (lastN zb.n.log).2 > (lastN z.n.log).2 ∨ ((lastN zb.n.log).2 = (lastN z.n.log).2 ∧ (lastN zb.n.log).1 ≥ (lastN z.n.log).1)) : Bests ns (i + 1) best (max top z.n.log.term) := by
  obtain ⟨t1, t2⟩ := h.top hz
  refine ⟨h.1, t1, fun a ha v y hv hy => ?_, t2⟩
  rw [hzb] at ha
  cases ha
  rcases Nat.lt_succ_iff_lt_or_eq.1 hv with h1 | h1
  · obtain ⟨h2, h3⟩ := h.2.2.1 zb hzb v y h1 hy
    exact ⟨h2, by omega⟩
  · rw [h1, hz] at hy
    cases hy
    exact ⟨hn, by omega⟩
set_option maxRecDepth 100000 in
set_option maxHeartbeats 40000000 in
theorem lawMoves_ok : SpecOk Try.prog 9 lawMovesSpec := by
  refine spec_of_exec (fn := Try.f9) (c := Try.f9.body.getD .skip) (d := 1) (lv := ([0, 1, 2, 6, 7, 8, 9, 10, 12, 13, 14, 15, 16, 17, 18, 19, 20, 21, 22, 23, 24, 27, 29, 49, 54, 65, 76, 77, 78, 79, 93, 94, 95, 96, 130, 153, 175, 195, 206, 234, 235, 236, 237, 264])) (DP := DPy T1 (CPs S31) ([0, 1, 2, 6, 7, 8, 9, 10, 12, 13, 14, 15, 16, 17, 18, 19, 20, 21, 22, 23, 24, 27, 29, 49, 54, 65, 76, 77, 78, 79, 93, 94, 95, 96, 130, 153, 175, 195, 206, 234, 235, 236, 237, 264])) T1_ok S31_ok (fun B => DPy_ok T1_ok ord S31_ok B) lawMovesSpec (by rfl) (by rfl) (by rfl) (fun _ => Nat.le_of_ble_eq_true (by kernel_rfl)) ?_
  rintro ⟨size, xs, B, c, who, m⟩ ⟨hM, hc, hl⟩
  conv => whnf
  refine ⟨m, trivial, ?_⟩
  conv => whnf
  repeat (first | exact trivial | (refine ⟨by first | exact ⟨rfl, rfl, rfl⟩ | rfl | exact ⟨rfl, rfl⟩ | exact ⟨rfl, fun _ _ => rfl⟩ | exact fun _ _ h => h | (intro _ _ h; cases h; done), ?_⟩; conv => whnf))
  intro _ _
  conv => whnf
  refine ⟨fun h => absurd h (by decide), fun _ => ?_⟩
  conv => whnf
  refine ⟨fun hbad => ?_, fun hgood => ?_⟩
  · conv => whnf
    refine ⟨(), trivial, ?_⟩
    conv => whnf
    repeat (first | exact trivial | exact fun _ _ h => h | (refine ⟨by first | exact ⟨rfl, rfl, rfl⟩ | rfl | exact ⟨rfl, rfl⟩ | exact ⟨rfl, fun _ _ => rfl⟩ | exact fun _ _ h => h | (intro _ _ h; cases h; done), ?_⟩; conv => whnf))
  · have hg2 : ((1 ≤ size ∧ size ≤ 7) ∧ xs.length ≤ 200) ∧ 0 ≤ who ∧ who < size := by
      have h3 := ors5 hgood
      have k1 := of_decide_eq_false h3.1
      have k2 := of_decide_eq_false h3.2.1
      have k3 := of_decide_eq_false h3.2.2.1
      have k4 := of_decide_eq_false h3.2.2.2.1
      have k5 := of_decide_eq_false h3.2.2.2.2
      omega
    obtain ⟨⟨⟨h1, h7⟩, hxl⟩, hw0, hws⟩ := hg2
    obtain ⟨sz, rfl⟩ : ∃ sz : Nat, size = (sz : Int) := ⟨size.toNat, by omega⟩
    obtain ⟨wh, rfl⟩ : ∃ wh : Nat, who = (wh : Int) := ⟨who.toNat, by omega⟩
    conv => whnf
    refine ⟨SafeL, fun ⟨i, ns, m1⟩ => i ≤ sz ∧ Newly (sz : Int) ns m1 i ∧ ∀ b o, m b = some o → m1 b = some o, fun ⟨i, ns, _⟩ => ⟨266, [⟨0, [], .i .i64 (sz : Int)⟩, ⟨1, [], .sl B xs.length c⟩, ⟨2, [], .i .i64 wh⟩, ⟨7, [], .p 0 0⟩, ⟨8, [], .i .i64 i⟩], [], worldH 1 2 3 4 5 6 ⟨ns, [], [], [], [], [], 0⟩, 7⟩, fun x => x.m, fun x => sz - x.i, ⟨⟨0, [], m⟩, rfl, ⟨Nat.zero_le _, ⟨rfl, fun v z h => by cases h⟩, fun _ _ h => h⟩, ?_⟩, ?_⟩
    conv => whnf
    · conv => whnf
      repeat (first | exact trivial | (refine ⟨by first | exact ⟨rfl, rfl, rfl⟩ | rfl | exact ⟨rfl, rfl⟩ | exact ⟨rfl, fun _ _ => rfl⟩ | exact fun _ _ h => h | (intro _ _ h; cases h; done), ?_⟩; conv => whnf))
    rintro ⟨i, ns, m1⟩ ⟨hi, hnew, hx1⟩
    refine ⟨fun hlt => ?_, fun hge => ?_⟩
    conv => whnf
    · have hlt : i < sz := by have h2 : (i : Int) < (sz : Int) := of_decide_eq_true hlt; omega
      refine ⟨m1, trivial, ?_⟩
      conv => whnf
      repeat (first | exact trivial | (refine ⟨by first | exact ⟨rfl, rfl, rfl⟩ | rfl | exact ⟨rfl, rfl⟩ | exact ⟨rfl, fun _ _ => rfl⟩ | exact fun _ _ h => h | (intro _ _ h; cases h; done), ?_⟩; conv => whnf))
      intro _ _
      conv => whnf
      refine ⟨⟨(i : Int), (sz : Int), emptyL, none, 0, m1⟩, ⟨Cells.nil _ _, by decide⟩, ?_⟩
      conv => whnf
      repeat (first | exact trivial | (refine ⟨by first | exact ⟨rfl, rfl, rfl⟩ | rfl | exact ⟨rfl, rfl⟩ | exact ⟨rfl, fun _ _ => rfl⟩ | exact fun _ _ h => h | (intro _ _ h; cases h; done), ?_⟩; conv => whnf))
      rintro ⟨n7, A7, c7, m7⟩ ⟨hn7, ⟨hc7, hle7⟩, hx7⟩ m8 h28 h78
      conv => whnf
      have hn0 : newR (i : Int) (sz : Int) emptyL = ⟨newN (i : Int) (sz : Int), [], 0⟩ := newR_ok (by omega) (by omega) (by omega)
      have hn7 : n7 = newN (i : Int) (sz : Int) := hn7.trans (by rw [hn0])
      refine ⟨fun h => absurd h (by rw [hn0]; show ¬ ((0 : Int) != 0) = true; decide), fun _ => ?_⟩
      conv => whnf
      refine Or.inl (Or.inr ⟨[0,7], sc9_12, by kernel_rfl, ?_⟩)
      conv => whnf
      repeat (first | exact trivial | (refine ⟨by first | exact ⟨rfl, rfl, rfl⟩ | rfl | exact ⟨rfl, rfl⟩ | exact ⟨rfl, fun _ _ => rfl⟩ | exact fun _ _ h => h | (intro _ _ h; cases h; done), ?_⟩; conv => whnf))
      have hil := hnew.len
      refine ⟨Nat.le_refl 1, ?_⟩
      conv => whnf
      repeat (first | exact trivial | (refine ⟨by first | exact ⟨rfl, rfl, rfl⟩ | rfl | exact ⟨rfl, rfl⟩ | exact ⟨rfl, fun _ _ => rfl⟩ | exact fun _ _ h => h | (intro _ _ h; cases h; done), ?_⟩; conv => whnf))
      refine ⟨⟨Nat.le_refl _, by show (ns.length + 1) * 232 ≤ _; omega, by show ns.length + 1 ≤ _; omega⟩, ?_⟩
      conv => whnf
      have hrow := nps_row (ys := ns) (y := ⟨n7, A7, c7⟩)
      refine ⟨⟨i + 1, ns ++ [⟨n7, A7, c7⟩], m8⟩, rfl, ⟨⟨hlt, hnew.push hn7 ⟨hc7.ext h78, hle7⟩ h28, fun b o h => h28 b o (hx1 b o h)⟩, by show sz - (i + 1) < sz - i; omega⟩, ?_⟩
      conv => whnf
      repeat (first | exact trivial | (refine ⟨by first | exact ⟨rfl, rfl, rfl⟩ | rfl | exact ⟨rfl, rfl⟩ | exact ⟨rfl, fun _ _ => rfl⟩ | exact fun _ _ h => h | (intro _ _ h; cases h; done) | exact wrapi_succ (by omega) | exact hrow.1 | exact hrow, ?_⟩; conv => whnf))
    · have hge : sz = i := by have h2 : ¬ (i : Int) < (sz : Int) := of_decide_eq_false hge; omega
      subst hge
      have hGo := roams_begin (by omega) (by omega) hnew
      refine Exists.elim hGo fun g hGo => Exists.elim hGo fun nf hGo => Exists.elim hGo fun Fs hGo => ?_
      conv => whnf
      refine ⟨RoamW, fun ⟨i, y, m2, g, nf, Fs⟩ => i ≤ xs.length ∧ Roams sz i g nf Fs y m2 ∧ ∀ b o, m b = some o → m2 b = some o, fun ⟨i, y, _, _, _, _⟩ => ⟨266, [⟨0, [], .i .i64 (sz : Int)⟩, ⟨2, [], .i .i64 wh⟩, ⟨7, [], .p 0 0⟩, ⟨76, [], .sl B xs.length c⟩, ⟨77, [], .i .i64 xs.length⟩, ⟨78, [], .i .i64 i⟩], [], worldH 1 2 3 4 5 6 y, 7⟩, fun x => x.m, fun x => xs.length - x.i, ⟨⟨0, ⟨ns, [], [], [], [], [], 0⟩, m1, g, nf, Fs⟩, rfl, ⟨Nat.zero_le _, hGo, hx1⟩, ?_⟩, ?_⟩
      conv => whnf
      · conv => whnf
        repeat (first | exact trivial | (refine ⟨by first | exact ⟨rfl, rfl, rfl⟩ | rfl | exact ⟨rfl, rfl⟩ | exact ⟨rfl, fun _ _ => rfl⟩ | exact fun _ _ h => h | (intro _ _ h; cases h; done), ?_⟩; conv => whnf))
      rintro ⟨i, ⟨ns, us, ts, ls, su, si, ct⟩, m2, g, nf, Fs⟩ ⟨hi, hGo, hx2⟩
      refine ⟨fun hlt => ?_, fun hge => ?_⟩
      conv => whnf
      · have hlt : i < xs.length := by have h2 : (i : Int) < (xs.length : Int) := of_decide_eq_true hlt; omega
        have hE := show ∃ x, xs[i]? = some x from ⟨_, List.getElem?_eq_getElem hlt⟩
        refine Exists.elim hE fun x hx => ?_
        have hM2 : Cells m2 B (movesV xs) := hM.ext hx2
        have hmild := hGo.inv.mild (by omega)
        refine ⟨⟨Int.natCast_nonneg _, by show (i : Int) < (xs.length : Int); omega, hM2.someV hx⟩, ?_⟩
        conv => whnf
        refine ⟨.g [.i .i64 x.kind, .i .i64 x.who, .i .i64 x.i], ⟨rfl, rfl, mem_move hM2 hx⟩, ?_⟩
        conv => whnf
        refine ⟨⟨⟨ns, us, ts, ls, su, si, ct⟩, x, m2⟩, ⟨hGo.mem, hmild⟩, ?_⟩
        conv => whnf
        repeat (first | exact trivial | (refine ⟨by first | exact ⟨rfl, rfl, rfl⟩ | rfl | exact ⟨rfl, rfl⟩ | exact ⟨rfl, fun _ _ => rfl⟩ | exact fun _ _ h => h | (intro _ _ h; cases h; done), ?_⟩; conv => whnf))
        rintro ⟨y', m'⟩ ⟨habs, hin, hx'⟩ m8 h28 h78
        have hE := hGo.step (by omega) habs (hin.ext h78)
        refine Exists.elim hE fun g' hE => Exists.elim hE fun nf' hE => Exists.elim hE fun Fs' hE => ?_
        conv => whnf
        refine ⟨⟨i + 1, y', m8, g', nf', Fs'⟩, rfl, ⟨⟨hlt, hE, fun b o h => h28 b o (hx2 b o h)⟩, by show xs.length - (i + 1) < xs.length - i; omega⟩, ?_⟩
        conv => whnf
        repeat (first | exact trivial | (refine ⟨by first | exact ⟨rfl, rfl, rfl⟩ | rfl | exact ⟨rfl, rfl⟩ | exact ⟨rfl, fun _ _ => rfl⟩ | exact fun _ _ h => h | (intro _ _ h; cases h; done) | exact wrapi_succ (by omega), ?_⟩; conv => whnf))
      · have hix : i = xs.length := by have h2 : ¬ (i : Int) < (xs.length : Int) := of_decide_eq_false hge; omega
        have hI := hGo.inv
        have hlen : ns.length = sz := by
          have := hI.len
          rwa [show (Wld.abs ⟨ns, us, ts, ls, su, si, ct⟩).ns = ns.map (·.n) from rfl, List.length_map] at this
        have hmem := hGo.mem
        have hmem : ∀ z ∈ ns, Cells m2 z.A (itemsV z.n.log.items) ∧ z.n.log.items.length ≤ z.c := hmem.n
        have hz4 : ∀ (v : Nat) (z : NP), ns[v]? = some z → v < sz ∧ Here sz g v z.n (Fs v) := fun v z hz => hI.here (w := Wld.abs ⟨ns, us, ts, ls, su, si, ct⟩) (by show (ns.map (·.n))[v]? = _; rw [List.getElem?_map, hz]; rfl)
        conv => whnf
        refine ⟨BestL, fun ⟨i, best, top⟩ => i ≤ ns.length ∧ Bests ns i best top, fun ⟨i, best, top⟩ => ⟨266, [⟨0, [], .i .i64 (sz : Int)⟩, ⟨7, [], .p 0 0⟩, ⟨13, [], .i .i64 best⟩, ⟨14, [], .i .i64 top⟩, ⟨93, [], .rw 1 ns.length⟩, ⟨94, [], .i .i64 ns.length⟩, ⟨95, [], .i .i64 i⟩], [], worldH 1 2 3 4 5 6 ⟨ns, [], ts, ls, su, si, ct⟩, 7⟩, fun _ => m2, fun x => ns.length - x.i, ⟨⟨0, wh, 0⟩, rfl, ⟨Nat.zero_le _, by rw [← hlen] at hws; omega, Int.le_refl _, fun _ _ v _ hv => absurd hv (Nat.not_lt_zero _), .inl rfl⟩, ?_⟩, ?_⟩
        conv => whnf
        · conv => whnf
          repeat (first | exact trivial | (refine ⟨by first | exact ⟨rfl, rfl, rfl⟩ | rfl | exact ⟨rfl, rfl⟩ | exact ⟨rfl, fun _ _ => rfl⟩ | exact fun _ _ h => h | (intro _ _ h; cases h; done), ?_⟩; conv => whnf))
        rintro ⟨i, best, top⟩ ⟨hi, hbest⟩
        refine ⟨fun hlt => ?_, fun hge => ?_⟩
        conv => whnf
        · have hlt : i < ns.length := by have h2 : (i : Int) < (ns.length : Int) := of_decide_eq_true hlt; omega
          have hE := getNP hlt
          refine Exists.elim hE fun z hz => ?_
          have hE := getNP hbest.1
          refine Exists.elim hE fun zb hzb => ?_
          have hzm := hmem z (List.mem_of_getElem? hz)
          have hzbm := hmem zb (List.mem_of_getElem? hzb)
          have hb1 := hbest.1
          have hf := (hz4 i z hz).2.fine
          have hfb := (hz4 best zb hzb).2.fine
          refine ⟨⟨Int.natCast_nonneg _, by show (i : Int) < (ns.length : Int); omega, Nat.le_refl _⟩, ?_⟩
          conv => whnf
          refine ⟨.g (nodeC z.n (.sl z.A z.n.log.items.length z.c)), ⟨rfl, rfl, rfl, np_le hz, np_at hz⟩, ?_⟩
          conv => whnf
          refine ⟨⟨Int.natCast_nonneg _, by show (best : Int) < (ns.length : Int); omega, Nat.le_refl _⟩, ?_⟩
          conv => whnf
          refine ⟨by show 0 < ns.length; omega, ?_⟩
          conv => whnf
          refine ⟨.g (logC zb.n.log (.sl zb.A zb.n.log.items.length zb.c)), ⟨rfl, rfl, rfl, (np_log hzb).1, (np_log hzb).2⟩, ?_⟩
          conv => whnf
          refine ⟨⟨zb.n.log, zb.A, zb.c, m2⟩, ⟨hzbm.1, Nat.lt_of_le_of_lt hfb.l (by decide)⟩, ?_⟩
          conv => whnf
          repeat (first | exact trivial | (refine ⟨by first | exact ⟨rfl, rfl, rfl⟩ | rfl | exact ⟨rfl, rfl⟩ | exact ⟨rfl, fun _ _ => rfl⟩ | exact fun _ _ h => h | (intro _ _ h; cases h; done), ?_⟩; conv => whnf))
          intro _ _
          conv => whnf
          refine ⟨⟨z.n.log, z.A, z.c, m2⟩, ⟨hzm.1, Nat.lt_of_le_of_lt hf.l (by decide)⟩, ?_⟩
          conv => whnf
          repeat (first | exact trivial | (refine ⟨by first | exact ⟨rfl, rfl, rfl⟩ | rfl | exact ⟨rfl, rfl⟩ | exact ⟨rfl, fun _ _ => rfl⟩ | exact fun _ _ h => h | (intro _ _ h; cases h; done), ?_⟩; conv => whnf))
          intro _ _
          conv => whnf
          refine ⟨fun hyes => ?_, fun hno => ?_⟩
          · have hb' := hbest.yes hz hzb (newer_yes hyes)
            conv => whnf
            refine ⟨⟨i + 1, i, max top z.n.log.term⟩, rfl, ⟨⟨hlt, hb'⟩, by show ns.length - (i + 1) < ns.length - i; omega⟩, ?_⟩
            conv => whnf
            repeat (first | exact trivial | (refine ⟨by first | exact ⟨rfl, rfl, rfl⟩ | rfl | exact ⟨rfl, rfl⟩ | exact ⟨rfl, fun _ _ => rfl⟩ | exact fun _ _ h => h | (intro _ _ h; cases h; done) | exact max_if _ _ | exact wrapi_succ (by omega), ?_⟩; conv => whnf))
          · have hb' := hbest.no hz hzb (newer_no hno)
            conv => whnf
            refine ⟨⟨i + 1, best, max top z.n.log.term⟩, rfl, ⟨⟨hlt, hb'⟩, by show ns.length - (i + 1) < ns.length - i; omega⟩, ?_⟩
            conv => whnf
            repeat (first | exact trivial | (refine ⟨by first | exact ⟨rfl, rfl, rfl⟩ | rfl | exact ⟨rfl, rfl⟩ | exact ⟨rfl, fun _ _ => rfl⟩ | exact fun _ _ h => h | (intro _ _ h; cases h; done) | exact max_if _ _ | exact wrapi_succ (by omega), ?_⟩; conv => whnf))
        · have hge : i = ns.length := by have h2 : ¬ (i : Int) < (ns.length : Int) := of_decide_eq_false hge; omega
          subst hge
          have hE := getNP hbest.1
          refine Exists.elim hE fun zb hzb => ?_
          have hb1 := hbest.1
          have hzbm := hmem zb (List.mem_of_getElem? hzb)
          have hfb := (hz4 best zb hzb).2.fine
          have hI1 : Inv sz xs.length 1000 g nf Fs (Wld.abs ⟨ns, [], ts, ls, su, si, ct⟩) := by
            rw [← hix]
            exact hI.less (w' := Wld.abs ⟨ns, [], ts, ls, su, si, ct⟩) rfl (fun m hm => by have hm : m ∈ ([] : List Msg) := hm; cases hm) (Nat.zero_le _) rfl rfl rfl rfl (Nat.le_refl _)
          have hstart := TL.start (top := top) hI1 (by omega) hxl (b := best) (n := zb.n) (by show (ns.map (·.n))[best]? = _; rw [List.getElem?_map, hzb]; rfl) (fun v a hv => by
            have hv : (ns.map (·.n))[v]? = some a := hv
            rw [List.getElem?_map] at hv
            obtain ⟨y, hy, rfl⟩ := Option.map_eq_some_iff.1 hv
            exact hbest.2.2.1 zb hzb v y (List.getElem?_eq_some_iff.1 hy).1 hy) (fun h1s => by
            rcases hbest.2.2.2 with h0 | ⟨v, y, hy, hyt⟩
            · rw [h0]; exact hfb.t1
            · have h5 := (List.getElem?_eq_some_iff.1 hy).1
              have h6 : v = best := by omega
              rw [h6, hzb] at hy
              cases hy
              omega)
          have htop : top ≤ 200 := by
            rcases hbest.2.2.2 with h0 | ⟨v, y, hy, hyt⟩
            · omega
            · have h5 := hGo.tl y.n (List.mem_map_of_mem (f := (·.n)) (List.mem_of_getElem? hy))
              omega
          obtain ⟨s1, s2, s3, s4⟩ := hstart
          conv => whnf
          refine ⟨⟨Int.natCast_nonneg _, by show (best : Int) < (ns.length : Int); omega, Nat.le_refl _⟩, ?_⟩
          conv => whnf
          refine ⟨by show 0 < ns.length; omega, ?_⟩
          conv => whnf
          refine ⟨.g (logC zb.n.log (.sl zb.A zb.n.log.items.length zb.c)), ⟨rfl, rfl, rfl, (np_log hzb).1, (np_log hzb).2⟩, ?_⟩
          conv => whnf
          refine ⟨⟨(best : Int), (sz : Int), zb.n.log, zb.A, zb.c, m2⟩, ⟨hzbm.1, Nat.lt_of_le_of_lt hfb.l (by decide)⟩, ?_⟩
          conv => whnf
          repeat (first | exact trivial | (refine ⟨by first | exact ⟨rfl, rfl, rfl⟩ | rfl | exact ⟨rfl, rfl⟩ | exact ⟨rfl, fun _ _ => rfl⟩ | exact fun _ _ h => h | (intro _ _ h; cases h; done), ?_⟩; conv => whnf))
          rintro ⟨n7, A7, c7, m7⟩ ⟨hn7, ⟨hc7, hle7⟩, hx7⟩ m8 h28 h78
          conv => whnf
          have hn7 : n7 = (newR zb.n.me zb.n.size zb.n.log).n := hn7.trans (by rw [s2])
          refine ⟨fun h => absurd h (by rw [s2, s3]; show ¬ ((0 : Int) != 0) = true; decide), fun _ => ?_⟩
          conv => whnf
          refine Or.inl (Or.inl ?_)
          conv => whnf
          refine ⟨by kernel_rfl, ?_⟩
          conv => whnf
          refine ⟨⟨Int.natCast_nonneg _, by show (best : Int) < (ns.length : Int); omega, Nat.le_refl _⟩, ?_⟩
          conv => whnf
          refine ⟨⟨np_le hzb, rfl⟩, ?_⟩
          conv => whnf
          have hsl : ns.length = (ns.set best ⟨n7, A7, c7⟩).length := by rw [List.length_set]
          have hrow8 := nps_set (np := ⟨n7, A7, c7⟩) hzb
          have hTL0 : TL sz best top 0 (Wld.abs ⟨ns.set best ⟨n7, A7, c7⟩, [], ts, ls, su, si, ct⟩) := by
            have e : Wld.abs ⟨ns.set best ⟨n7, A7, c7⟩, [], ts, ls, su, si, ct⟩ = moveW (Wld.abs ⟨ns, [], ts, ls, su, si, ct⟩) ⟨6, (best : Int), 0⟩ := by
              rw [s1, ← hn7]
              unfold Wld.abs
              simp only [List.map_set]
            rw [e]
            exact s4
          have hin2 : InM m8 ⟨ns.set best ⟨n7, A7, c7⟩, [], ts, ls, su, si, ct⟩ := by
            refine ⟨fun z hz => ?_, fun o ho => by cases ho⟩
            rcases List.mem_or_eq_of_mem_set hz with h5 | h5
            · exact ⟨(hmem z h5).1.ext h28, (hmem z h5).2⟩
            · rw [h5]; exact ⟨hc7.ext h78, hle7⟩
          have hx8 : ∀ b o, m b = some o → m8 b = some o := fun b o h => h28 b o (hx2 b o h)
          obtain ⟨y2, hy2⟩ : ∃ y2 : Wld, y2 = ⟨ns.set best ⟨n7, A7, c7⟩, [], ts, ls, su, si, ct⟩ := ⟨_, rfl⟩
          rw [← hy2] at hTL0 hin2
          refine ⟨TimeL, fun ⟨i, y, m9⟩ => i ≤ 300 ∧ TL sz best top i y.abs ∧ InM m9 y ∧ ∀ b o, m b = some o → m9 b = some o, fun ⟨i, y, _⟩ => ⟨266, [⟨7, [], .p 0 0⟩, ⟨13, [], .i .i64 best⟩, ⟨14, [], .i .i64 top⟩, ⟨23, [], .i .i64 i⟩], [], worldH 1 2 3 4 5 6 y, 7⟩, fun x => x.m, fun x => 300 - x.i, ⟨⟨0, y2, m8⟩, rfl, ⟨Nat.zero_le _, hTL0, hin2, hx8⟩, ?_⟩, ?_⟩
          conv => whnf
          · rw [hy2]
            conv => whnf
            repeat (first | exact trivial | (refine ⟨by first | exact ⟨rfl, rfl, rfl⟩ | rfl | exact ⟨rfl, rfl⟩ | exact ⟨rfl, fun _ _ => rfl⟩ | exact fun _ _ h => h | (intro _ _ h; cases h; done) | exact hsl | exact ⟨hsl, hrow8⟩, ?_⟩; conv => whnf))
          rintro ⟨i, ⟨ns, us, ts, ls, su, si, ct⟩, m9⟩ ⟨hi, hTL, hmem, hx9⟩
          have hE := hTL.node
          refine Exists.elim hE fun zb hzb => ?_
          have hzb : ns[best]? = some zb := hzb
          have hb1 : best < ns.length := (List.getElem?_eq_some_iff.1 hzb).1
          conv => whnf
          refine ⟨fun _ => ⟨Int.natCast_nonneg _, by show (best : Int) < (ns.length : Int); omega, Nat.le_refl _⟩, ?_⟩
          conv => whnf
          refine ⟨fun _ => by show 0 < ns.length; omega, ?_⟩
          conv => whnf
          refine ⟨fun _ => by show 0 < ns.length; omega, ?_⟩
          conv => whnf
          refine ⟨.i .i64 zb.n.log.term, ⟨rfl, rfl, rfl, fun _ => np_int (f := 2) (t := zb.n.log.term) hzb (by decide) rfl⟩, ?_⟩
          conv => whnf
          have hzn : (Wld.abs ⟨ns, us, ts, ls, su, si, ct⟩).ns[best]? = some zb.n := by show (ns.map (·.n))[best]? = _; rw [List.getElem?_map, hzb]; rfl
          refine ⟨fun hgo => ?_, fun hout => ?_⟩
          · obtain ⟨k1, k2⟩ := ite_and hgo
            have k1 : (i : Int) < 300 := of_decide_eq_true k1
            have k2 : zb.n.log.term ≤ top := of_decide_eq_true k2
            have hstep := hTL.step (by omega) hzn k2 (w1 := Wld.abs ⟨ns, [], ts, ls, su, si, ct⟩) rfl rfl rfl rfl rfl rfl
            have hW1 : World7 (Wld.abs ⟨ns, [], ts, ls, su, si, ct⟩) := hTL.none
            have hin1 : InM m9 ⟨ns, [], ts, ls, su, si, ct⟩ := ⟨hmem.n, fun o ho => by cases ho⟩
            conv => whnf
            refine ⟨⟨⟨ns, [], ts, ls, su, si, ct⟩, ⟨3, (best : Int), 0⟩, m9⟩, ⟨hin1, hW1.mild⟩, ?_⟩
            conv => whnf
            repeat (first | exact trivial | (refine ⟨by first | exact ⟨rfl, rfl, rfl⟩ | rfl | exact ⟨rfl, rfl⟩ | exact ⟨rfl, fun _ _ => rfl⟩ | exact fun _ _ h => h | (intro _ _ h; cases h; done), ?_⟩; conv => whnf))
            rintro ⟨y', m'⟩ ⟨habs, hin, hx'⟩ m10 h28 h78
            have habs : y'.abs = moveW (Wld.abs ⟨ns, [], ts, ls, su, si, ct⟩) ⟨3, (best : Int), 0⟩ := habs
            rw [← habs] at hstep
            conv => whnf
            refine ⟨⟨i + 1, y', m10⟩, rfl, ⟨⟨by omega, hstep, hin.ext h78, fun b o h => h28 b o (hx9 b o h)⟩, by show 300 - (i + 1) < 300 - i; omega⟩, ?_⟩
            conv => whnf
            repeat (first | exact trivial | (refine ⟨by first | exact ⟨rfl, rfl, rfl⟩ | rfl | exact ⟨rfl, rfl⟩ | exact ⟨rfl, fun _ _ => rfl⟩ | exact fun _ _ h => h | (intro _ _ h; cases h; done) | exact wrapi_succ (by omega), ?_⟩; conv => whnf))
          · have hgt := hTL.over htop hzn (by
              rcases ite_or hout with k1 | k1
              · exact .inl (by have := of_decide_eq_false k1; omega)
              · exact .inr (by have := of_decide_eq_false k1; omega))
            have hRest := hTL.drain hzn hgt
            have hW := hTL.world
            have hWd := hW.drain
            conv => whnf
            refine ⟨⟨⟨ns, us, ts, ls, su, si, ct⟩, m9⟩, ⟨hmem, hW⟩, ?_⟩
            conv => whnf
            repeat (first | exact trivial | (refine ⟨by first | exact ⟨rfl, rfl, rfl⟩ | rfl | exact ⟨rfl, rfl⟩ | exact ⟨rfl, fun _ _ => rfl⟩ | exact fun _ _ h => h | (intro _ _ h; cases h; done), ?_⟩; conv => whnf))
            rintro ⟨y', m'⟩ ⟨habs, hin, hx'⟩ m10 h28 h78
            have habs : y'.abs = drainW 16384 (Wld.abs ⟨ns, us, ts, ls, su, si, ct⟩) := habs
            rw [← habs] at hRest hWd
            have hin10 : InM m10 y' := hin.ext h78
            have hx10 : ∀ b o, m b = some o → m10 b = some o := fun b o h => h28 b o (hx9 b o h)
            have hE := hRest.node
            refine Exists.elim hE fun z hE => ?_
            obtain ⟨hz, hrole, hlen⟩ := hE
            have hb2 : best < y'.ns.length := (List.getElem?_eq_some_iff.1 hz).1
            conv => whnf
            refine ⟨⟨Int.natCast_nonneg _, by show (best : Int) < (y'.ns.length : Int); omega, Nat.le_refl _⟩, ?_⟩
            conv => whnf
            refine ⟨by show 0 < y'.ns.length; omega, ?_⟩
            conv => whnf
            refine ⟨.i .i64 z.n.role, ⟨rfl, rfl, rfl, np_int (f := 8) (t := z.n.role) hz (by decide) rfl⟩, ?_⟩
            conv => whnf
            refine ⟨fun h => absurd h (by rw [hrole]; decide), fun _ => ?_⟩
            conv => whnf
            refine ⟨⟨Int.natCast_nonneg _, by show (best : Int) < (y'.ns.length : Int); omega, Nat.le_refl _⟩, ?_⟩
            conv => whnf
            refine ⟨by show 0 < y'.ns.length; omega, ?_⟩
            conv => whnf
            refine ⟨by show 0 < y'.ns.length; omega, ?_⟩
            conv => whnf
            refine ⟨.sl z.A z.n.log.items.length z.c, ⟨rfl, rfl, rfl, np_val (f := 7) hz (by decide) rfl⟩, ?_⟩
            conv => whnf
            refine ⟨fun h => absurd (of_decide_eq_true h) (by show ¬ (z.n.log.items.length : Int) ≥ 256; omega), fun _ => ?_⟩
            have hPL := hRest.prop
            have hW5 := hWd.next ⟨5, (best : Int), 0⟩ (by show (5 : Int) ≤ 6; decide)
            have hW6 := hW5.drain
            conv => whnf
            refine ⟨⟨y', ⟨5, (best : Int), 0⟩, m10⟩, ⟨hin10, hWd.mild⟩, ?_⟩
            conv => whnf
            repeat (first | exact trivial | (refine ⟨by first | exact ⟨rfl, rfl, rfl⟩ | rfl | exact ⟨rfl, rfl⟩ | exact ⟨rfl, fun _ _ => rfl⟩ | exact fun _ _ h => h | (intro _ _ h; cases h; done), ?_⟩; conv => whnf))
            rintro ⟨y5, m5⟩ ⟨habs5, hin5, hx5⟩ m11 h28 h78
            have habs5 : y5.abs = moveW y'.abs ⟨5, (best : Int), 0⟩ := habs5
            have hin11 : InM m11 y5 := hin5.ext h78
            have hx11 : ∀ b o, m b = some o → m11 b = some o := fun b o h => h28 b o (hx10 b o h)
            rw [← habs5] at hPL hW5 hW6
            conv => whnf
            refine ⟨⟨y5, m11⟩, ⟨hin11, hW5⟩, ?_⟩
            conv => whnf
            repeat (first | exact trivial | (refine ⟨by first | exact ⟨rfl, rfl, rfl⟩ | rfl | exact ⟨rfl, rfl⟩ | exact ⟨rfl, fun _ _ => rfl⟩ | exact fun _ _ h => h | (intro _ _ h; cases h; done), ?_⟩; conv => whnf))
            rintro ⟨y6, m6⟩ ⟨habs6, hin6, hx6⟩ m12 h28 h78
            have habs6 : y6.abs = drainW 16384 y5.abs := habs6
            have hin12 : InM m12 y6 := hin6.ext h78
            have hx12 : ∀ b o, m b = some o → m12 b = some o := fun b o h => h28 b o (hx11 b o h)
            rw [← habs6] at hPL hW6
            conv => whnf
            have hPL8 := beats_all hPL
            have hW7 := hW6.next ⟨4, (best : Int), 0⟩ (by show (4 : Int) ≤ 6; decide)
            have hW8 := hW7.drain
            refine ⟨⟨y6, ⟨4, (best : Int), 0⟩, m12⟩, ⟨hin12, hW6.mild⟩, ?_⟩
            conv => whnf
            repeat (first | exact trivial | (refine ⟨by first | exact ⟨rfl, rfl, rfl⟩ | rfl | exact ⟨rfl, rfl⟩ | exact ⟨rfl, fun _ _ => rfl⟩ | exact fun _ _ h => h | (intro _ _ h; cases h; done), ?_⟩; conv => whnf))
            rintro ⟨y7, m7⟩ ⟨habs7, hin7, hx7⟩ m13 h28 h78
            have habs7 : y7.abs = moveW y6.abs ⟨4, (best : Int), 0⟩ := habs7
            have hin13 : InM m13 y7 := hin7.ext h78
            have hx13 : ∀ b o, m b = some o → m13 b = some o := fun b o h => h28 b o (hx12 b o h)
            rw [← habs7] at hPL8 hW7 hW8
            conv => whnf
            refine ⟨⟨y7, m13⟩, ⟨hin13, hW7⟩, ?_⟩
            conv => whnf
            repeat (first | exact trivial | (refine ⟨by first | exact ⟨rfl, rfl, rfl⟩ | rfl | exact ⟨rfl, rfl⟩ | exact ⟨rfl, fun _ _ => rfl⟩ | exact fun _ _ h => h | (intro _ _ h; cases h; done), ?_⟩; conv => whnf))
            rintro ⟨⟨ns, us, ts, ls, su, si, ct⟩, m8⟩ ⟨habs8, hin8, hx8⟩ m14 h28 h78
            have habs8 : (Wld.abs ⟨ns, us, ts, ls, su, si, ct⟩) = drainW 16384 y7.abs := habs8
            have hin14 : InM m14 ⟨ns, us, ts, ls, su, si, ct⟩ := hin8.ext h78
            have hx14 : ∀ b o, m b = some o → m14 b = some o := fun b o h => h28 b o (hx13 b o h)
            rw [← habs8] at hPL8 hW8
            have hE := done_all hPL8
            refine Exists.elim hE fun zb hE => ?_
            obtain ⟨hzb, hfb, hall⟩ := hE
            have hzb : ns[best]? = some zb := hzb
            have hb3 : best < ns.length := (List.getElem?_eq_some_iff.1 hzb).1
            have hzbm := hin14.n zb (List.mem_of_getElem? hzb)
            have hnl : ns.length ≤ 7 := hW8.mild.s
            conv => whnf
            refine ⟨⟨Int.natCast_nonneg _, by show (best : Int) < (ns.length : Int); omega, Nat.le_refl _⟩, ?_⟩
            conv => whnf
            refine ⟨by show 0 < ns.length; omega, ?_⟩
            conv => whnf
            refine ⟨.g (logC zb.n.log (.sl zb.A zb.n.log.items.length zb.c)), ⟨rfl, rfl, rfl, (np_log hzb).1, (np_log hzb).2⟩, ?_⟩
            conv => whnf
            refine ⟨⟨zb.n.log, zb.A, zb.c, m14⟩, ⟨hzbm.1, Nat.lt_of_le_of_lt hfb.l (by decide)⟩, ?_⟩
            conv => whnf
            repeat (first | exact trivial | (refine ⟨by first | exact ⟨rfl, rfl, rfl⟩ | rfl | exact ⟨rfl, rfl⟩ | exact ⟨rfl, fun _ _ => rfl⟩ | exact fun _ _ h => h | (intro _ _ h; cases h; done), ?_⟩; conv => whnf))
            intro _ _
            conv => whnf
            refine ⟨Nat, fun i => i ≤ ns.length, fun i => ⟨266, [⟨7, [], .p 0 0⟩, ⟨13, [], .i .i64 best⟩, ⟨24, [], .i .i64 (lastN zb.n.log).1⟩, ⟨234, [], .rw 1 ns.length⟩, ⟨235, [], .i .i64 ns.length⟩, ⟨236, [], .i .i64 i⟩], [], worldH 1 2 3 4 5 6 ⟨ns, us, ts, ls, su, si, ct⟩, 7⟩, fun _ => m14, fun i => ns.length - i, ⟨0, rfl, Nat.zero_le _, ?_⟩, ?_⟩
            conv => whnf
            · conv => whnf
              repeat (first | exact trivial | (refine ⟨by first | exact ⟨rfl, rfl, rfl⟩ | rfl | exact ⟨rfl, rfl⟩ | exact ⟨rfl, fun _ _ => rfl⟩ | exact fun _ _ h => h | (intro _ _ h; cases h; done), ?_⟩; conv => whnf))
            intro i hi
            have hi : i ≤ ns.length := hi
            refine ⟨fun hlt => ?_, fun hge => ?_⟩
            conv => whnf
            · have hlt : i < ns.length := by have h2 : (i : Int) < (ns.length : Int) := of_decide_eq_true hlt; omega
              have hE := getNP hlt
              refine Exists.elim hE fun z hz => ?_
              obtain ⟨e1, e2, e3⟩ := hall i z hz
              refine ⟨⟨Int.natCast_nonneg _, by show (i : Int) < (ns.length : Int); omega, Nat.le_refl _⟩, ?_⟩
              conv => whnf
              refine ⟨.g (nodeC z.n (.sl z.A z.n.log.items.length z.c)), ⟨rfl, rfl, rfl, np_le hz, np_at hz⟩, ?_⟩
              conv => whnf
              refine Or.inl (Or.inr ⟨[0,1,7], sc9_52, by kernel_rfl, ?_⟩)
              conv => whnf
              refine ⟨fun _ => ⟨Int.natCast_nonneg _, by show (best : Int) < (ns.length : Int); omega, Nat.le_refl _⟩, ?_⟩
              conv => whnf
              refine ⟨fun _ => by show 0 < ns.length; omega, ?_⟩
              conv => whnf
              refine ⟨fun _ => by show 0 < ns.length; omega, ?_⟩
              conv => whnf
              refine ⟨.i .i64 zb.n.log.term, ⟨rfl, rfl, rfl, fun _ => np_int (f := 2) (t := zb.n.log.term) hzb (by decide) rfl⟩, ?_⟩
              conv => whnf
              repeat (first | exact trivial | (refine ⟨by first | exact ⟨rfl, rfl, rfl⟩ | rfl | exact ⟨rfl, rfl⟩ | exact ⟨rfl, fun _ _ => rfl⟩ | exact fun _ _ h => h | (intro _ _ h; cases h; done), ?_⟩; conv => whnf))
              refine ⟨fun h => absurd h (by rw [e1, e2, e3]; simp), fun _ => ?_⟩
              conv => whnf
              refine ⟨i + 1, rfl, ⟨hlt, by show ns.length - (i + 1) < ns.length - i; omega⟩, ?_⟩
              conv => whnf
              repeat (first | exact trivial | (refine ⟨by first | exact ⟨rfl, rfl, rfl⟩ | rfl | exact ⟨rfl, rfl⟩ | exact ⟨rfl, fun _ _ => rfl⟩ | exact fun _ _ h => h | (intro _ _ h; cases h; done) | exact wrapi_succ (by omega), ?_⟩; conv => whnf))
            · conv => whnf
              refine ⟨(), trivial, ?_⟩
              conv => whnf
              repeat (first | exact trivial | exact fun _ _ h => h | (refine ⟨by first | exact ⟨rfl, rfl, rfl⟩ | rfl | exact ⟨rfl, rfl⟩ | exact ⟨rfl, fun _ _ => rfl⟩ | exact fun _ _ h => h | (intro _ _ h; cases h; done), ?_⟩; conv => whnf))
              exact hx14
end Go.Proofs.Ytjpjiniclibgkaa.Sx

namespace Go.Proofs.Ytjpjiniclibgkaa.Moves
open Go Go.ChangeShapes Go.WideShapes Go.ChangeAt Go.RowKit Sx

theorem contract (H : Type) (enc : TypeId × Value → H) (W : World) (base : Nat) (args : Array Value) (ds gs : List (DataW H)) (before : List MemPlace)
    (hval : ∀ (j : Nat) t v, Try.f9.params[j]? = some t → args[j]? = some v → Value.okWide Try.prog W .any base t v)
    (hW : DataW.Whole enc Try.prog Try.f9.params.toList Rows.raftMovesSpec.vars false W args.toList ds gs before) (hw : (DataW.weightsEach Try.prog (Try.f9.params.toList ++ (OpenSpec.ofChange Rows.raftMovesSpec).bare.plain.varTypes Try.prog) (ds ++ gs)).all (· ≤ reachBytes) = true) :
    Calls Try.prog 9 args W fun e W' => ∃ v, e = .returned v ∧ Rows.raftMovesSpec.post enc Try.prog Try.f9 false true false false W args v W' := by
  have hW' := hW
  obtain ⟨p, q, hA0, hV, rfl, hfz, hnd⟩ := hW
  have hA : DataW.TrodAll enc Try.prog W 0 (fun _ => true) true Try.f9.params.toList args.toList ds p := hA0
  rw [Try.params9] at hA hval
  obtain ⟨v0, vs0, d0, ds0, p0, q0, hargs, rfl, rfl, h0, r0⟩ := trodAll_cons hA
  obtain ⟨v1, vs1, d1, ds1, p1, q1, rfl, rfl, rfl, h1, r1⟩ := trodAll_cons r0
  obtain ⟨v2, vs2, d2, ds2, p2, q2, rfl, rfl, rfl, h2, r2⟩ := trodAll_cons r1
  obtain ⟨rfl, rfl, rfl⟩ := trodAll_nil r2
  obtain rfl : args = #[v0, v1, v2] := by cases args; simp_all
  rw [Try.params9] at hw
  simp only [List.cons_append, List.nil_append, DataW.weightsEach, List.all_append, Bool.and_eq_true] at hw
  obtain ⟨i0, rfl, rfl, _, hwf0⟩ := open_int und3 (hval 0 3 v0 rfl rfl) h0
  have hf0 := wf_fits hwf0
  obtain ⟨fu1, ht1⟩ := trod_one64 (hval 1 64 v1 rfl rfl) h1
  obtain ⟨A1, c1, xs1, he1, hM1, hc1, hl1⟩ := open_moves ht1 hw.2.1
  cases he1
  obtain ⟨i2, rfl, rfl, _, hwf2⟩ := open_int und3 (hval 2 3 v2 rfl rfl) h2
  have hf2 := wf_fits hwf2
  refine (law_calls lawMoves_ok ⟨i0, xs1, A1, c1, i2, allMem W⟩ ⟨hM1, hc1, hl1⟩ (fun _ _ h => h) rfl (by rfl) fun _ => rfl).mono fun e W' ⟨he, hbl⟩ => ⟨_, he, ?_⟩
  exact law_post hbl laidOut (by rw [Try.params9]; intro t ht; simp only [List.mem_cons, List.not_mem_nil, or_false] at ht; rcases ht with rfl | rfl | rfl <;> exact ⟨by kernel_rfl, of_decide_eq_true (by kernel_rfl)⟩) (by kernel_rfl) und4 rfl
    (fun ds hd => by rw [Try.params9] at hd; match ds, hd with | [_, _, _], _ => rfl) hW'

theorem reads (os : Os) {H : Type} (enc : TypeId × Value → H) : ∃ places, DataW.whole enc Try.prog ((laidWorld os).forCall (fun _ _ => 0) ⟨#[], #[.int .i64 0, .slice none 0 0, .int .i64 0], []⟩).memory Try.f9.params.toList Rows.raftMovesSpec.vars false (#[.int .i64 0, .slice none 0 0, .int .i64 0] : Array Value).toList 8 = some ([.lit (.int .i64 0), .nil, .lit (.int .i64 0)], [], places) :=
  ⟨[], by kernel_rfl⟩
set_option maxRecDepth 100000 in
theorem lifted (os : Os) (started : os.Started) (H : Type) (enc : TypeId × Value → H) (F : Stop.Interp) :
    ReturnsInHanded {} Try.checked os 9 .any ((OpenSpec.ofChange Rows.raftMovesSpec).preRow enc Try.prog Try.f9 Rows.raftMovesRow.domain false Rows.raftMovesRow.laid) (((OpenSpec.ofChange Rows.raftMovesSpec).at F).post enc Try.prog Try.f9 false true false false) := by
  obtain ⟨places, hx⟩ := reads os enc
  refine returnsInHanded_of_row (C := Try.checked) (s := OpenSpec.ofChange Rows.raftMovesSpec) own started (by kernel_rfl) Try.func9
    (witness_row_at (enc := enc) (C := Try.checked) false (laidWorld os) #[.int .i64 0, .slice none 0 0, .int .i64 0] rfl (by kernel_rfl) (by kernel_rfl) (by kernel_rfl)
      (OpenSpec.preRow_of_cond 8 hx (by kernel_rfl) (fun k hk => by cases hk) (by kernel_rfl) (laid_none os _))) ?_
  intro W base args ds gs before hval hW _ _ hw hL _ _
  exact contract H enc W base args ds gs before hval hW hw
theorem said : Rows.RaftMovesSaid :=
  OpenClaim.holds_of_cond 9 Try.f9 rfl rfl rfl rfl rfl rfl rfl ⟨rfl, rfl, rfl, rfl, rfl⟩ rfl rfl rfl rfl rfl (by kernel_rfl) Try.func9 (by kernel_rfl)
    (of_decide_eq_true (by kernel_rfl)) (by unfold Func.isWrapper; first | (rw [if_pos (by decide +kernel)]; kernel_rfl) | (rw [if_neg (by decide +kernel)]; exact ⟨rfl, rfl⟩))
    (fun os started H enc _ F => by rw [OpenClaim.pre_eq_preRow]; exact lifted os started H enc F)
end Go.Proofs.Ytjpjiniclibgkaa.Moves
