/- A leader's entries are heard, as the document says. Then: Plain facts of nodes that can be. -/
import Derived.Test.YtjpjiniclibgkaaKeepD
namespace Go.Proofs.Ytjpjiniclibgkaa.Sx
open Go

def S12 : List (Nat × Spec) := (47, hearSpec 78 askR) :: S11
theorem S12_all : ∀ f s, findS S12 f = some s → SpecOk Try.prog f s := CP_cons S11_all ask_ok
theorem S12_ok : CPOk Try.prog (CPs S12) := CPs_ok S12_all
theorem andT {a b : Prop} [Decidable a] [Decidable b] (h : (if decide a = true then decide b else false) = true) : a ∧ b := by
  rw [ifand, Bool.and_eq_true, decide_eq_true_eq, decide_eq_true_eq] at h; exact h
theorem andF {a b : Prop} [Decidable a] [Decidable b] (h : (if decide a = true then decide b else false) = false) : ¬ (a ∧ b) := by
  rw [ifand, Bool.and_eq_false_iff, decide_eq_false_iff_not, decide_eq_false_iff_not] at h
  rintro ⟨h1, h2⟩
  rcases h with h | h
  · exact h h1
  · exact h h2
theorem subP {s i : Nat} (h : ((s - i : Nat) : Int) > 0) : i < s := by omega
theorem getIx {xs : List Item} {i : Nat} (h : i < xs.length) : ∃ x, xs[i]? = some x := ⟨_, List.getElem?_eq_getElem h⟩
theorem own_le {xs : List Item} {i : Nat} {x : Item} (h : xs[i]? = some x) (f k : Nat) (hf : f + k ≤ 6) : i * 6 + f + k ≤ (itemsV xs).length := by
  have := (List.getElem?_eq_some_iff.1 h).1
  rw [itemsV_len]; omega
theorem own_term {xs : List Item} {i : Nat} {x : Item} (h : xs[i]? = some x) : [Value.int .i64 (termOf xs i)] = ((itemsV xs).drop (i * 6 + 0)).take 1 := by
  rw [itemsV_at h 0 1 (by omega)]; unfold termOf; rw [h]; rfl
theorem mem_term {m : Mem} {A : Option Addr} {xs : List Item} {i : Nat} {x : Item} (hM : Cells m A (itemsV xs)) (h : xs[i]? = some x) : rdM m A (i * 6 + 0) 1 [Value.int .i64 (termOf xs i)] := hM.rd rfl rfl (by decide) (own_term h)
theorem own_item {xs : List Item} {i : Nat} {x : Item} (h : xs[i]? = some x) : dens η0 (itemC x) = ((itemsV xs).drop (i * 6 + 0)).take 6 := by
  rw [itemsV_at h 0 6 (by omega)]; rfl
theorem clash_drop {n : Node} {a : Int} {xs : List Item} {j : Nat} {x : Item} (h : xs[j]? = some x) : clashB n (a + (j : Int)) (xs.drop j) = ((decide (a + (j : Int) + 1 ≤ n.commit) && ((termAtN n.log (a + (j : Int) + 1)).1 != x.term)) || clashB n (a + ((j + 1 : Nat) : Int)) (xs.drop (j + 1))) := by
  rw [drop_cons h]
  have : a + ((j + 1 : Nat) : Int) = a + (j : Int) + 1 := by omega
  rw [this]; rfl
theorem lay_drop {n : Node} {a : Int} {xs : List Item} {j : Nat} {x : Item} (h : xs[j]? = some x) : layGo n a (xs.drop j) = if a < lastI (cutN n a x) then layGo (cutN n a x) (a + 1) (xs.drop (j + 1)) else if (cutN n a x).log.items.length ≥ 256 then ⟨cutN n a x, a⟩ else layGo (pushN (cutN n a x) x) (a + 1) (xs.drop (j + 1)) := by
  rw [drop_cons h]; rfl
structure LayT where
  i : Nat
  n : Node
  a : Int
theorem push_row {xs : List Item} {x : Item} {L : Nat} {R : List Value} (hL : L = xs.length) (hR : R = itemsV xs) : L + 1 = (xs ++ [x]).length ∧ R.take (L * 6) ++ itemV x = itemsV (xs ++ [x]) := by
  subst hL hR
  refine ⟨by rw [List.length_append]; rfl, ?_⟩
  rw [itemsV_take, List.take_length, itemsV_append]; simp [itemsV]
theorem known_of {l : Log} {i : Int} (h1 : l.base < i) (h2 : i - l.base ≤ l.items.length) : (termAtN l i).2 = true := by
  obtain ⟨x, hx⟩ := getIx (xs := l.items) (i := (i - l.base - 1).toNat) (by omega)
  rw [termAtN_in (by omega) h1 h2 hx]
theorem mem_item {m : Mem} {A : Option Addr} {xs : List Item} {i : Nat} {x : Item} (hM : Cells m A (itemsV xs)) (h : xs[i]? = some x) : rdM m A (i * 6 + 0) 6 (dens η0 (itemC x)) := hM.rd rfl rfl (by decide) (own_item h)
theorem Cells.someX {m : Mem} {A : Option Addr} {xs : List Item} {i : Nat} {x : Item} (hM : Cells m A (itemsV xs)) (h : xs[i]? = some x) : A.isSome = true := hM.some' (by have := (List.getElem?_eq_some_iff.1 h).1; omega)
theorem ext_trans {m m' m'' : Mem} (h : ∀ b o, m b = some o → m' b = some o) (h' : ∀ b o, m' b = some o → m'' b = some o) : ∀ b o, m b = some o → m'' b = some o := fun b o x => h' b o (h b o x)
structure CutG where
  t : Nat
  i : Nat
  A : Option Addr
  c : Nat
  m : Mem
  own : Bool
set_option maxRecDepth 100000 in
set_option maxHeartbeats 6400000 in
theorem refLay_ok : SpecOk Try.prog 58 (hearSpec 85 appendR) := by
  refine spec_of_exec (fn := Try.f58) (c := Try.f58.body.getD .skip) (d := 1) (lv := ([0, 1, 3, 4, 5, 6, 7, 8, 9, 11, 12, 13, 16, 17, 18, 19, 34, 47, 70, 80, 109, 125, 136, 149, 150, 151, 152, 184, 186, 187, 188, 189, 209, 233, 241, 263, 271])) (DP := DPx T1 (CPs S12) ([0, 1, 3, 4, 5, 6, 7, 8, 9, 11, 12, 13, 16, 17, 18, 19, 34, 47, 70, 80, 109, 125, 136, 149, 150, 151, 152, 184, 186, 187, 188, 189, 209, 233, 241, 263, 271])) T1_ok S12_ok (fun B => DPx_ok T1_ok ord S12_ok B) (hearSpec 85 appendR) (by rfl) (by rfl) (by rfl) (fun _ => Nat.le_of_ble_eq_true (by kernel_rfl)) ?_
  rintro ⟨n, os, m, k, D, e⟩ ⟨hf0, ⟨hk1, hk2, hk3, hk4⟩, hil, ⟨hM, hcap⟩, hsaid, hos⟩
  obtain ⟨hs1, hs2, hm1, hm2, hb1, hb2, hl, hc1, hc2⟩ := hf0
  have hf0 : Fit n := ⟨hs1, hs2, hm1, hm2, hb1, hb2, hl, hc1, hc2⟩
  have hlast : (lastN n.log).1 = lastI n := last_fit hf0
  have hli : lastI n = n.log.base + n.log.items.length := rfl
  obtain ⟨s, hs⟩ : ∃ s, s = k.items.length := ⟨_, rfl⟩
  conv => whnf
  refine ⟨itemsV k.items, hM.src, ?_⟩
  conv => whnf
  repeat (first | exact trivial | (refine ⟨by first | exact ⟨rfl, rfl, rfl⟩ | rfl | exact ⟨rfl, rfl⟩ | exact ⟨rfl, fun _ _ => rfl⟩ | exact fun _ _ h => h | (intro _ _ h; cases h; done) | exact ⟨Nat.le_refl _, by show (0 + k.items.length) * 56 ≤ _; omega, by omega⟩, ?_⟩; conv => whnf))
  refine ⟨fun hlow => ?_, fun hhigh => ?_⟩
  · have hlow : k.last < n.log.base := of_decide_eq_true hlow
    conv => whnf
    refine ⟨CutG, fun ⟨t, i, A, c, m', own⟩ => i ≤ s ∧ t = s - i ∧ k.last + (i : Int) ≤ n.log.base ∧ (∀ b o, m b = some o → m' b = some o) ∧ (match own with | true => i = 0 ∧ m' = m | false => 0 < i ∧ Cells m' A (itemsV (k.items.drop i)) ∧ t ≤ c ∧ (k.last + (i : Int) = n.log.base → termOf k.items (i - 1) = n.log.baseTerm)), fun ⟨t, i, A, c, _, own⟩ => (match own with | true => ⟨283, [⟨0, [], .p 0 0⟩, ⟨3, [], .p 3 0⟩, ⟨4, [], .i .i64 k.last⟩, ⟨5, [], .rw 4 s⟩], [], (3, .st 29 (msgC k (.sl D k.items.length e))) :: (4, .row 44 6 s (itemsV k.items)) :: turnH 85 1 2 n .own os, 5⟩ | false => ⟨283, [⟨0, [], .p 0 0⟩, ⟨3, [], .p 3 0⟩, ⟨4, [], .i .i64 (k.last + (i : Int))⟩, ⟨5, [], .sl A t c⟩], [], (3, .st 29 (msgC k (.sl D k.items.length e))) :: turnH 85 1 2 n .own os, 4⟩), fun ⟨_, _, _, _, m', _⟩ => m', fun ⟨_, i, _, _, _, _⟩ => s - i, ⟨⟨s, 0, none, 0, m, true⟩, rfl, ⟨Nat.zero_le _, rfl, by show k.last + ((0 : Nat) : Int) ≤ _; omega, fun _ _ h => h, rfl, rfl⟩, ?_⟩, ?_⟩
    conv => whnf
    · conv => whnf
      repeat (first | exact trivial | (refine ⟨by first | exact ⟨rfl, rfl, rfl⟩ | rfl | exact ⟨rfl, rfl⟩ | exact ⟨rfl, fun _ _ => rfl⟩ | exact fun _ _ h => h | (intro _ _ h; cases h; done) | exact ⟨rfl, hs.symm, rfl⟩ | (rw [hs, Nat.zero_add]; done) | (rw [Nat.zero_add]; exact ⟨hs.symm, rfl⟩), ?_⟩; conv => whnf))
    · rintro ⟨t, i, A, c, m', own⟩ ⟨hi, ht, hb, hext, hown⟩
      cases own with
      | true =>
        obtain ⟨rfl, rfl⟩ := hown
        have hw1 : IntKind.i64.wrap (k.last + 1) = k.last + 1 := wrapi ⟨by omega, by omega⟩
        refine ⟨fun hgo => ?_, fun hstop => ?_⟩
        conv => whnf
        · have hsp : 0 < s := by have h2 : _ ∧ (s : Int) > 0 := andT hgo; omega
          conv => whnf
          refine Or.inr ⟨[], sc58_7, by kernel_rfl, ?_⟩
          conv => whnf
          conv in (occs := *) (IntKind.wrap _ _) => all_goals rw [hw1]
          refine ⟨fun _ => ⟨Int.le_refl _, by show (0 : Int) < (s : Int); omega, Nat.le_refl _⟩, ?_⟩
          conv => whnf
          refine ⟨fun _ => hsp, ?_⟩
          conv => whnf
          have hlen0 : 0 < k.items.length := hs ▸ hsp
          obtain ⟨x, hx⟩ := getIx hlen0
          have hnk : 0 < n.log.base - k.last := by omega
          refine ⟨.i .i64 (termOf k.items 0), ⟨rfl, rfl, rfl, fun _ => ⟨own_le hx 0 1 (by omega), own_term hx⟩⟩, ?_⟩
          conv => whnf
          refine ⟨fun hbad => ?_, fun hfine => ?_⟩
          · rw [ifand] at hbad
            have hbad : k.last + 1 = n.log.base ∧ termOf k.items 0 ≠ n.log.baseTerm := by simpa [bne] using hbad
            have hsk : skipI n k = 1 := by unfold skipI; omega
            have hr : appendR n k = ⟨n, none⟩ := by
              unfold appendR
              rw [if_pos hlow, hsk, if_pos ⟨by omega, hbad.2⟩]
            refine ⟨⟨n, n.log.items, os⟩, ⟨by rw [hr], ⟨Nat.le_refl _, List.take_length⟩, by rw [hr]; exact Since.refl os, hsaid⟩, ?_⟩
            conv => whnf
            repeat (first | exact trivial | exact fun _ _ h => h | (refine ⟨by first | exact ⟨rfl, rfl, rfl⟩ | rfl | exact ⟨rfl, rfl⟩ | exact ⟨rfl, fun _ _ => rfl⟩ | exact fun _ _ h => h | (intro _ _ h; cases h; done), ?_⟩; conv => whnf))
          · have hfine : ¬ (k.last + 1 = n.log.base ∧ termOf k.items 0 ≠ n.log.baseTerm) := by rw [ifand] at hfine; simpa [bne] using hfine
            conv => whnf
            intro A2 cap2 m2 hS2
            have hc2 : Cells m2 A2 (itemsV k.items) := .of_sealed hS2
            have hcap2 : s ≤ cap2 := hS2.le
            repeat (first | exact trivial | (refine ⟨by first | exact ⟨rfl, rfl, rfl⟩ | rfl | exact ⟨rfl, rfl⟩ | exact ⟨rfl, fun _ _ => rfl⟩ | exact fun _ _ h => h | (intro _ _ h; cases h; done) | exact ⟨Int.le_of_lt Int.zero_lt_one, by show (1 : Int) ≤ (s : Int); omega⟩, ?_⟩; conv => whnf))
            refine ⟨⟨s - 1, 0 + 1, if cap2 = (1 : Int).toNat then A2 else A2.map (·.add ((1 : Int).toNat * 6)), cap2 - (1 : Int).toNat, m2, false⟩, rfl, ⟨⟨by omega, rfl, by show k.last + 1 ≤ _; omega, hS2.ext, Nat.zero_lt_one, hc2.slice (c := cap2) (l := 1) (hs ▸ hcap2), Nat.sub_le_sub_right hcap2 1, fun h => Decidable.byContradiction fun hh => hfine ⟨h, hh⟩⟩, by show s - (0 + 1) < s - 0; omega⟩, ?_⟩
            conv => whnf
            repeat (first | exact trivial | (refine ⟨by first | exact ⟨rfl, rfl, rfl⟩ | rfl | exact ⟨rfl, rfl⟩ | exact ⟨rfl, fun _ _ => rfl⟩ | exact fun _ _ h => h | (intro _ _ h; cases h; done) | exact ⟨rfl, hs.symm, rfl⟩, ?_⟩; conv => whnf))
        · have hs0 : s = 0 := by
            have h2 : ¬ (k.last < n.log.base ∧ (s : Int) > 0) := andF hstop
            omega
          have hsk : skipI n k = 0 := by unfold skipI; omega
          have hr : appendR n k = ⟨n, some (ansM n.log.base true)⟩ := by
            unfold appendR
            rw [if_pos hlow, hsk, if_neg (fun h => by have := h.1; omega), if_pos (by omega)]
          conv => whnf
          refine ⟨fun _ => ?_, fun h => absurd hlow (of_decide_eq_false h)⟩
          conv => whnf
          refine Or.inr ⟨[], sc58_10, by kernel_rfl, ?_⟩
          conv => whnf
          refine ⟨⟨n, .own, os, m', k.frm, ansM n.log.base true, none, 0⟩, ⟨by show os.length < 1000; omega, Cells.nil _ _⟩, ?_⟩
          conv => whnf
          repeat (first | exact trivial | (refine ⟨by first | exact ⟨rfl, rfl, rfl⟩ | rfl | exact ⟨rfl, rfl⟩ | exact ⟨rfl, fun _ _ => rfl⟩ | exact fun _ _ h => h | (intro _ _ h; cases h; done), ?_⟩; conv => whnf))
          rintro b rfl
          refine ⟨⟨n, n.log.items, os ++ [⟨sayN n k.frm (ansM n.log.base true), none, 0⟩]⟩, ⟨by rw [hr], ⟨Nat.le_refl _, List.take_length⟩, by rw [hr]; exact (Since.refl os).snoc rfl, hsaid.snoc (Cells.nil _ _)⟩, ?_⟩
          conv => whnf
          repeat (first | exact trivial | exact fun _ _ h => h | (refine ⟨by first | exact ⟨rfl, rfl, rfl⟩ | rfl | exact ⟨rfl, rfl⟩ | exact ⟨rfl, fun _ _ => rfl⟩ | exact fun _ _ h => h | (intro _ _ h; cases h; done), ?_⟩; conv => whnf))
          all_goals exact hext
      | false =>
        obtain ⟨hip, hMc, hcc, hte⟩ := hown
        have hlt0 : t = (k.items.drop i).length := by rw [List.length_drop, ← hs]; exact ht
        refine ⟨fun hgo => ?_, fun hstop => ?_⟩
        conv => whnf
        · have hgo : k.last + (i : Int) < n.log.base ∧ (t : Int) > 0 := andT hgo
          have hlo := hgo.1
          have htp : 0 < t := by have := hgo.2; omega
          have hsp : i < k.items.length := by rw [hlt0, List.length_drop] at htp; omega
          have hw1 : IntKind.i64.wrap (k.last + (i : Int) + 1) = k.last + (i : Int) + 1 := wrapi ⟨by omega, by omega⟩
          have hlen0 : 0 < (k.items.drop i).length := hlt0 ▸ htp
          obtain ⟨x, hx⟩ := getIx hlen0
          have hx0 : termOf (k.items.drop i) 0 = termOf k.items i := by unfold termOf; rw [List.getElem?_drop, Nat.add_zero]
          conv => whnf
          refine Or.inr ⟨[], sc58_7, by kernel_rfl, ?_⟩
          conv => whnf
          conv in (occs := *) (IntKind.wrap _ _) => all_goals rw [hw1]
          refine ⟨fun _ => ⟨Int.le_refl _, by show (0 : Int) < (t : Int); omega, hMc.someX hx⟩, ?_⟩
          conv => whnf
          refine ⟨fun _ => hMc.someX hx, ?_⟩
          conv => whnf
          refine ⟨.i .i64 (termOf (k.items.drop i) 0), ⟨rfl, rfl, fun _ => mem_term hMc hx⟩, ?_⟩
          conv => whnf
          refine ⟨fun hbad => ?_, fun hfine => ?_⟩
          · rw [ifand] at hbad
            have hbad : k.last + (i : Int) + 1 = n.log.base ∧ termOf (k.items.drop i) 0 ≠ n.log.baseTerm := by simpa [bne] using hbad
            rw [hx0] at hbad
            have hsk : skipI n k = i + 1 := by have := hbad.1; unfold skipI; omega
            have hr : appendR n k = ⟨n, none⟩ := by
              unfold appendR
              rw [if_pos hlow, hsk, if_pos ⟨by have := hbad.1; omega, hbad.2⟩]
            refine ⟨⟨n, n.log.items, os⟩, ⟨by rw [hr], ⟨Nat.le_refl _, List.take_length⟩, by rw [hr]; exact Since.refl os, hsaid⟩, ?_⟩
            conv => whnf
            repeat (first | exact trivial | exact fun _ _ h => h | (refine ⟨by first | exact ⟨rfl, rfl, rfl⟩ | rfl | exact ⟨rfl, rfl⟩ | exact ⟨rfl, fun _ _ => rfl⟩ | exact fun _ _ h => h | (intro _ _ h; cases h; done), ?_⟩; conv => whnf))
            all_goals exact hext
          · have hfine : ¬ (k.last + (i : Int) + 1 = n.log.base ∧ termOf (k.items.drop i) 0 ≠ n.log.baseTerm) := by rw [ifand] at hfine; simpa [bne] using hfine
            rw [hx0] at hfine
            have hdd : (k.items.drop i).drop 1 = k.items.drop (i + 1) := List.drop_drop
            have hM1 := hMc.slice (c := c) (l := 1) (hlt0 ▸ hcc)
            rw [hdd] at hM1
            conv => whnf
            repeat (first | exact trivial | (refine ⟨by first | exact ⟨rfl, rfl, rfl⟩ | rfl | exact ⟨rfl, rfl⟩ | exact ⟨rfl, fun _ _ => rfl⟩ | exact fun _ _ h => h | (intro _ _ h; cases h; done) | exact ⟨Int.le_of_lt Int.zero_lt_one, by show (1 : Int) ≤ (t : Int); omega⟩, ?_⟩; conv => whnf))
            refine ⟨⟨t - 1, i + 1, if c = (1 : Int).toNat then A else A.map (·.add ((1 : Int).toNat * 6)), c - (1 : Int).toNat, m', false⟩, rfl, ⟨⟨by omega, by omega, by show k.last + ((i + 1 : Nat) : Int) ≤ _; omega, hext, Nat.succ_pos _, hM1, Nat.sub_le_sub_right hcc 1, fun h => Decidable.byContradiction fun hh => hfine ⟨(Int.add_assoc _ _ _).trans h, hh⟩⟩, by show s - (i + 1) < s - i; omega⟩, ?_⟩
            conv => whnf
            repeat (first | exact trivial | (refine ⟨by first | exact ⟨rfl, rfl, rfl⟩ | rfl | exact ⟨rfl, rfl⟩ | exact ⟨rfl, fun _ _ => rfl⟩ | exact fun _ _ h => h | (intro _ _ h; cases h; done) | (show k.last + (i : Int) + 1 = k.last + ((i + 1 : Nat) : Int); omega), ?_⟩; conv => whnf))
        · have hstop : ¬ (k.last + (i : Int) < n.log.base ∧ (t : Int) > 0) := andF hstop
          conv => whnf
          refine ⟨fun hlo => ?_, fun hhi => ?_⟩
          · have hlo : k.last + (i : Int) < n.log.base := of_decide_eq_true hlo
            have his : i = k.items.length := by omega
            have hsk : skipI n k = i := by unfold skipI; omega
            have hr : appendR n k = ⟨n, some (ansM n.log.base true)⟩ := by
              unfold appendR
              rw [if_pos hlow, hsk, if_neg (fun h => by have := h.1; omega), if_pos (by omega)]
            conv => whnf
            refine Or.inr ⟨[], sc58_10, by kernel_rfl, ?_⟩
            conv => whnf
            refine ⟨⟨n, .own, os, m', k.frm, ansM n.log.base true, none, 0⟩, ⟨by show os.length < 1000; omega, Cells.nil _ _⟩, ?_⟩
            conv => whnf
            repeat (first | exact trivial | (refine ⟨by first | exact ⟨rfl, rfl, rfl⟩ | rfl | exact ⟨rfl, rfl⟩ | exact ⟨rfl, fun _ _ => rfl⟩ | exact fun _ _ h => h | (intro _ _ h; cases h; done), ?_⟩; conv => whnf))
            rintro b rfl
            refine ⟨⟨n, n.log.items, os ++ [⟨sayN n k.frm (ansM n.log.base true), none, 0⟩]⟩, ⟨by rw [hr], ⟨Nat.le_refl _, List.take_length⟩, by rw [hr]; exact (Since.refl os).snoc rfl, hsaid.snoc (Cells.nil _ _)⟩, ?_⟩
            conv => whnf
            repeat (first | exact trivial | exact fun _ _ h => h | (refine ⟨by first | exact ⟨rfl, rfl, rfl⟩ | rfl | exact ⟨rfl, rfl⟩ | exact ⟨rfl, fun _ _ => rfl⟩ | exact fun _ _ h => h | (intro _ _ h; cases h; done), ?_⟩; conv => whnf))
            all_goals exact hext
          · have hhi : ¬ k.last + (i : Int) < n.log.base := of_decide_eq_false hhi
            have hsk : skipI n k = i := by unfold skipI; omega
            have happ : appendR n k = layR n k (k.last + (i : Int)) (k.items.drop i) := by
              unfold appendR
              rw [if_pos hlow, hsk, if_neg (fun h => h.2 (hte h.1)), if_neg (by omega)]
            have hbase : n.log.base ≤ k.last + (i : Int) := by omega
            have htop : k.last + (i : Int) ≤ lastI n := by omega
            have hs0 := hs
            have hs : t = (k.items.drop i).length := hlt0
            have htl : t ≤ 1000 := by omega
            conv => whnf
            refine ⟨Nat, fun j9 => j9 ≤ t ∧ clashB n ((k.last + (i : Int)) + (j9 : Int)) (((k.items.drop i)).drop j9) = clashB n ((k.last + (i : Int))) ((k.items.drop i)), fun j9 => ⟨283, [⟨0, [], .p 0 0⟩, ⟨3, [], .p 3 0⟩, ⟨4, [], .i .i64 ((k.last + (i : Int)))⟩, ⟨5, [], .sl A t c⟩, ⟨149, [], .sl A t c⟩, ⟨150, [], .i .i64 t⟩, ⟨151, [], .i .i64 j9⟩], [], (3, .st 29 (msgC k (.sl D k.items.length e))) :: turnH 85 1 2 n .own os, 4⟩, fun _ => m', fun j9 => t - j9, ⟨0, rfl, ⟨Nat.zero_le _, by show clashB n ((k.last + (i : Int)) + 0) ((k.items.drop i)) = _; rw [Int.add_zero]⟩, ?_⟩, ?_⟩
            conv => whnf
            · conv => whnf
              repeat (first | exact trivial | (refine ⟨by first | exact ⟨rfl, rfl, rfl⟩ | rfl | exact ⟨rfl, rfl⟩ | exact ⟨rfl, fun _ _ => rfl⟩ | exact fun _ _ h => h | (intro _ _ h; cases h; done) | rfl, ?_⟩; conv => whnf))
            · rintro j9 ⟨hj, hcl⟩
              refine ⟨fun hlt => ?_, fun hge => ?_⟩
              conv => whnf
              · have hlt : j9 < t := by have h2 : (j9 : Int) < (t : Int) := of_decide_eq_true hlt; omega
                obtain ⟨x, hx⟩ := getIx (xs := (k.items.drop i)) (hs ▸ hlt)
                refine ⟨⟨Int.natCast_nonneg _, by show (j9 : Int) < (t : Int); omega, hMc.someX hx⟩, ?_⟩
                conv => whnf
                refine ⟨.g (itemC x), ⟨rfl, rfl, mem_item hMc hx⟩, ?_⟩
                conv => whnf
                have hcd := clash_drop (n := n) (a := (k.last + (i : Int))) hx
                have hw2 : IntKind.i64.wrap (IntKind.i64.wrap ((k.last + (i : Int)) + 1) + (j9 : Int)) = (k.last + (i : Int)) + (j9 : Int) + 1 := by rw [wrapi (x := (k.last + (i : Int)) + 1) ⟨by omega, by omega⟩, wrapi ⟨by omega, by omega⟩]; omega
                intro A3 cap3 m3 hS3
                refine ⟨⟨n.log, A3, cap3, (k.last + (i : Int)) + (j9 : Int) + 1, m3⟩, ⟨.of_sealed hS3, by show n.log.items.length < 2 ^ 62; omega, ⟨by omega, by omega⟩, ⟨by omega, by omega⟩⟩, ?_⟩
                conv => whnf
                repeat (first | exact trivial | (refine ⟨by first | exact ⟨rfl, rfl, rfl⟩ | rfl | exact ⟨rfl, rfl⟩ | exact ⟨rfl, fun _ _ => rfl⟩ | exact fun _ _ h => h | (intro _ _ h; cases h; done) | exact hw2 | exact hw2.symm, ?_⟩; conv => whnf))
                intro _ _
                conv => whnf
                refine ⟨fun hy => ?_, fun hn => ?_⟩
                · rw [hw2, ifand] at hy
                  have hcl1 : clashB n ((k.last + (i : Int))) ((k.items.drop i)) = true := by rw [← hcl, hcd, hy]; rfl
                  have hr : appendR n k = ⟨n, none⟩ := by rw [happ]; unfold layR; rw [if_pos hcl1]
                  refine ⟨⟨n, n.log.items, os⟩, ⟨by rw [hr], ⟨Nat.le_refl _, List.take_length⟩, by rw [hr]; exact Since.refl os, hsaid⟩, ?_⟩
                  conv => whnf
                  repeat (first | exact trivial | exact fun _ _ h => h | (refine ⟨by first | exact ⟨rfl, rfl, rfl⟩ | rfl | exact ⟨rfl, rfl⟩ | exact ⟨rfl, fun _ _ => rfl⟩ | exact fun _ _ h => h | (intro _ _ h; cases h; done), ?_⟩; conv => whnf))
                  all_goals exact hext
                · rw [hw2, ifand] at hn
                  rw [hn, Bool.false_or] at hcd
                  refine ⟨j9 + 1, rfl, ⟨⟨hlt, by rw [← hcl, hcd]⟩, by show t - (j9 + 1) < t - j9; omega⟩, ?_⟩
                  conv => whnf
                  repeat (first | exact trivial | (refine ⟨by first | exact ⟨rfl, rfl, rfl⟩ | rfl | exact ⟨rfl, rfl⟩ | exact ⟨rfl, fun _ _ => rfl⟩ | exact fun _ _ h => h | (intro _ _ h; cases h; done) | exact wrapi_succ (by omega), ?_⟩; conv => whnf))
              · have hge : j9 = t := by have h2 : ¬ (j9 : Int) < (t : Int) := of_decide_eq_false hge; omega
                rw [hge, hs, List.drop_length] at hcl
                have hcl : clashB n ((k.last + (i : Int))) ((k.items.drop i)) = false := hcl.symm
                refine ⟨LayT, fun ⟨i9, n1, a1⟩ => i9 ≤ t ∧ layGo n ((k.last + (i : Int))) ((k.items.drop i)) = layGo n1 a1 (((k.items.drop i)).drop i9) ∧ Fit n1 ∧ n1.log.base ≤ a1 ∧ a1 ≤ lastI n1, fun ⟨i9, n1, a1⟩ => ⟨283, [⟨0, [], .p 0 0⟩, ⟨3, [], .p 3 0⟩, ⟨4, [], .i .i64 a1⟩, ⟨186, [], .sl A t c⟩, ⟨187, [], .i .i64 t⟩, ⟨188, [], .i .i64 i9⟩], [], (3, .st 29 (msgC k (.sl D k.items.length e))) :: turnH 85 1 4 n1 .own os, 5⟩, fun _ => m', fun ⟨i9, _, _⟩ => t - i9, ⟨⟨0, n, (k.last + (i : Int))⟩, rfl, ⟨Nat.zero_le _, rfl, hf0, hbase, htop⟩, ?_⟩, ?_⟩
                conv => whnf
                · conv => whnf
                  repeat (first | exact trivial | (refine ⟨by first | exact ⟨rfl, rfl, rfl⟩ | rfl | exact ⟨rfl, rfl⟩ | exact ⟨rfl, fun _ _ => rfl⟩ | exact fun _ _ h => h | (intro _ _ h; cases h; done) | rfl, ?_⟩; conv => whnf))
                · rintro ⟨i9, n1, a1⟩ ⟨hi, hgo, hf1, hb1', hb2'⟩
                  have hlk := lay_keeps ((k.items.drop i)) n ((k.last + (i : Int)))
                  have hfb1 := hf1.b1
                  have hfb2 := hf1.b2
                  have hfl := hf1.l
                  have hli1 : lastI n1 = n1.log.base + n1.log.items.length := rfl
                  refine ⟨fun hlt => ?_, fun hge => ?_⟩
                  conv => whnf
                  · have hlt : i9 < t := by have h2 : (i9 : Int) < (t : Int) := of_decide_eq_true hlt; omega
                    obtain ⟨x, hx⟩ := getIx (xs := (k.items.drop i)) (hs ▸ hlt)
                    refine ⟨⟨Int.natCast_nonneg _, by show (i9 : Int) < (t : Int); omega, hMc.someX hx⟩, ?_⟩
                    conv => whnf
                    refine ⟨.g (itemC x), ⟨rfl, rfl, mem_item hMc hx⟩, ?_⟩
                    conv => whnf
                    have hld := lay_drop (n := n1) (a := a1) hx
                    rw [hld] at hgo
                    have hwa : IntKind.i64.wrap (a1 + 1) = a1 + 1 := wrapi ⟨by omega, by omega⟩
                    intro A4 cap4 m4 hS4
                    refine ⟨⟨n1.log, A4, cap4, a1 + 1, m4⟩, ⟨.of_sealed hS4, by show n1.log.items.length < 2 ^ 62; omega, ⟨by omega, by omega⟩, ⟨by omega, by omega⟩⟩, ?_⟩
                    conv => whnf
                    repeat (first | exact trivial | (refine ⟨by first | exact ⟨rfl, rfl, rfl⟩ | rfl | exact ⟨rfl, rfl⟩ | exact ⟨rfl, fun _ _ => rfl⟩ | exact fun _ _ h => h | (intro _ _ h; cases h; done) | exact hwa | exact hwa.symm, ?_⟩; conv => whnf))
                    intro _ _
                    refine ⟨fun hc => ?_, fun hc => ?_⟩
                    conv => whnf
                    · have hcut : cutB n1 a1 x = true := hc
                      have hcn : cutN n1 a1 x = truncN n1 a1 := by unfold cutN; rw [hcut]
                      rw [hcn] at hgo
                      have hk : (termAtN n1.log (a1 + 1)).2 = true := by unfold cutB at hcut; cases h : (termAtN n1.log (a1 + 1)).2 with | true => rfl | false => rw [h] at hcut; cases hcut
                      have hin := known_in hk
                      have hh0 : ((a1 - n1.log.base).toNat : Int) = a1 - n1.log.base := by omega
                      obtain ⟨h, hh⟩ : ∃ h : Nat, h = (a1 - n1.log.base).toNat := ⟨_, rfl⟩
                      rw [← hh] at hh0
                      have hwh : IntKind.i64.wrap (a1 - n1.log.base) = (h : Int) := by rw [wrapi ⟨by omega, by omega⟩]; omega
                      have hle : h ≤ n1.log.items.length := by omega
                      have hlen : h = (truncN n1 a1).log.items.length := by show _ = (n1.log.items.take (a1 - n1.log.base).toNat).length; rw [List.length_take, ← hh]; omega
                      have hlt1 : ¬ a1 < lastI (truncN n1 a1) := by show ¬ a1 < n1.log.base + ((truncN n1 a1).log.items.length : Int); rw [← hlen]; omega
                      have hrow1 : (itemsV n1.log.items).take (h * 6) = itemsV (truncN n1 a1).log.items := by rw [itemsV_take, hh]; rfl
                      have hft : Fit (truncN n1 a1) := ⟨hf1.s1, hf1.s2, hf1.m1, hf1.m2, hf1.b1, hf1.b2, by rw [← hlen]; omega, hf1.c1, hf1.c2⟩
                      have hal : a1 ≤ lastI (truncN n1 a1) := by show a1 ≤ n1.log.base + ((truncN n1 a1).log.items.length : Int); rw [← hlen]; omega
                      rw [if_neg hlt1] at hgo
                      conv => whnf
                      refine Or.inr ⟨[0, 4], sc58_31, by kernel_rfl, ?_⟩
                      conv => whnf
                      conv in (occs := *) (IntKind.wrap _ _) => all_goals rw [hwh]
                      repeat (first | exact trivial | (refine ⟨by first | exact ⟨rfl, rfl, rfl⟩ | rfl | exact ⟨rfl, rfl⟩ | exact ⟨rfl, fun _ _ => rfl⟩ | exact fun _ _ h => h | (intro _ _ h; cases h; done) | exact Nat.le_refl _ | exact ⟨Int.natCast_nonneg _, by show (h : Int) ≤ (n1.log.items.length : Int); omega⟩ | exact hle | exact ⟨Nat.le_refl _, by show (0 + h) * 56 ≤ _; omega, by omega⟩, ?_⟩; conv => whnf))
                      refine ⟨fun _ => ?_, fun h => (by cases h)⟩
                      have hL : 0 + (h : Int).toNat = (truncN n1 a1).log.items.length := by rw [Nat.zero_add, Int.toNat_natCast]; exact hlen
                      have hR : List.take (0 * 6) (dens η0 []) ++ List.take ((h : Int).toNat * 6) (itemsV n1.log.items) = itemsV (truncN n1 a1).log.items := by rw [Int.toNat_natCast]; exact hrow1
                      conv => whnf
                      refine ⟨fun hbig => ?_, fun hsm => ?_⟩
                      · have hbig : (truncN n1 a1).log.items.length ≥ 256 := by have h2 : ((0 + (h : Int).toNat : Nat) : Int) ≥ 256 := of_decide_eq_true hbig; omega
                        rw [if_pos hbig] at hgo
                        conv => whnf
                        rw [hgo] at hlk
                        have hk1 : (truncN n1 a1).me = n.me := hlk.1
                        have hk2 : (truncN n1 a1).log.term = n.log.term := hlk.2.1
                        have hr : appendR n k = ⟨{ truncN n1 a1 with commit := max (truncN n1 a1).commit (min k.commit a1) }, some (ansM a1 true)⟩ := by rw [happ]; unfold layR; rw [if_neg (by rw [hcl]; decide), hgo]
                        refine ⟨fun h1 => ?_, fun h1 => ?_⟩
                        · have h1 : a1 < k.commit := of_decide_eq_true h1
                          conv => whnf
                          refine ⟨fun h2 => ?_, fun h2 => ?_⟩
                          · have h2 : a1 > (truncN n1 a1).commit := of_decide_eq_true h2
                            have hcm : max (truncN n1 a1).commit (min k.commit a1) = a1 := by omega
                            rw [hcm] at hr
                            conv => whnf
                            refine ⟨⟨{ truncN n1 a1 with commit := a1 }, .own, os, m', k.frm, ansM a1 true, none, 0⟩, ⟨by show os.length < 1000; omega, Cells.nil _ _⟩, ?_⟩
                            conv => whnf
                            repeat (first | exact trivial | (refine ⟨by first | exact ⟨rfl, rfl, rfl⟩ | rfl | exact ⟨rfl, rfl⟩ | exact ⟨rfl, fun _ _ => rfl⟩ | exact fun _ _ h => h | (intro _ _ h; cases h; done) | exact hL | exact ⟨hL, hR⟩ | exact hL.symm | exact ⟨hL.symm, hR.symm⟩, ?_⟩; conv => whnf))
                            rintro b rfl
                            have hsn : sayN { truncN n1 a1 with commit := a1 } k.frm (ansM a1 true) = sayN n k.frm (ansM a1 true) := by unfold sayN; simp only [hk1, hk2]
                            refine ⟨⟨{ truncN n1 a1 with commit := a1 }, (truncN n1 a1).log.items, os ++ [⟨sayN { truncN n1 a1 with commit := a1 } k.frm (ansM a1 true), none, 0⟩]⟩, ⟨by rw [hr], ⟨Nat.le_refl _, List.take_length⟩, by rw [hr]; exact (Since.refl os).snoc hsn, hsaid.snoc (Cells.nil _ _)⟩, ?_⟩
                            conv => whnf
                            repeat (first | exact trivial | exact fun _ _ h => h | (refine ⟨by first | exact ⟨rfl, rfl, rfl⟩ | rfl | exact ⟨rfl, rfl⟩ | exact ⟨rfl, fun _ _ => rfl⟩ | exact fun _ _ h => h | (intro _ _ h; cases h; done) | exact hL | exact ⟨hL, hR⟩ | exact hL.symm | exact ⟨hL.symm, hR.symm⟩, ?_⟩; conv => whnf))
                            all_goals exact hext
                          · have h2 : ¬ a1 > (truncN n1 a1).commit := of_decide_eq_false h2
                            have hcm : max (truncN n1 a1).commit (min k.commit a1) = (truncN n1 a1).commit := by omega
                            rw [hcm] at hr
                            conv => whnf
                            refine ⟨⟨{ truncN n1 a1 with commit := (truncN n1 a1).commit }, .own, os, m', k.frm, ansM a1 true, none, 0⟩, ⟨by show os.length < 1000; omega, Cells.nil _ _⟩, ?_⟩
                            conv => whnf
                            repeat (first | exact trivial | (refine ⟨by first | exact ⟨rfl, rfl, rfl⟩ | rfl | exact ⟨rfl, rfl⟩ | exact ⟨rfl, fun _ _ => rfl⟩ | exact fun _ _ h => h | (intro _ _ h; cases h; done) | exact hL | exact ⟨hL, hR⟩ | exact hL.symm | exact ⟨hL.symm, hR.symm⟩, ?_⟩; conv => whnf))
                            rintro b rfl
                            have hsn : sayN { truncN n1 a1 with commit := (truncN n1 a1).commit } k.frm (ansM a1 true) = sayN n k.frm (ansM a1 true) := by unfold sayN; simp only [hk1, hk2]
                            refine ⟨⟨{ truncN n1 a1 with commit := (truncN n1 a1).commit }, (truncN n1 a1).log.items, os ++ [⟨sayN { truncN n1 a1 with commit := (truncN n1 a1).commit } k.frm (ansM a1 true), none, 0⟩]⟩, ⟨by rw [hr], ⟨Nat.le_refl _, List.take_length⟩, by rw [hr]; exact (Since.refl os).snoc hsn, hsaid.snoc (Cells.nil _ _)⟩, ?_⟩
                            conv => whnf
                            repeat (first | exact trivial | exact fun _ _ h => h | (refine ⟨by first | exact ⟨rfl, rfl, rfl⟩ | rfl | exact ⟨rfl, rfl⟩ | exact ⟨rfl, fun _ _ => rfl⟩ | exact fun _ _ h => h | (intro _ _ h; cases h; done) | exact hL | exact ⟨hL, hR⟩ | exact hL.symm | exact ⟨hL.symm, hR.symm⟩, ?_⟩; conv => whnf))
                            all_goals exact hext
                        · have h1 : ¬ a1 < k.commit := of_decide_eq_false h1
                          conv => whnf
                          refine ⟨fun h2 => ?_, fun h2 => ?_⟩
                          · have h2 : k.commit > (truncN n1 a1).commit := of_decide_eq_true h2
                            have hcm : max (truncN n1 a1).commit (min k.commit a1) = k.commit := by omega
                            rw [hcm] at hr
                            conv => whnf
                            refine ⟨⟨{ truncN n1 a1 with commit := k.commit }, .own, os, m', k.frm, ansM a1 true, none, 0⟩, ⟨by show os.length < 1000; omega, Cells.nil _ _⟩, ?_⟩
                            conv => whnf
                            repeat (first | exact trivial | (refine ⟨by first | exact ⟨rfl, rfl, rfl⟩ | rfl | exact ⟨rfl, rfl⟩ | exact ⟨rfl, fun _ _ => rfl⟩ | exact fun _ _ h => h | (intro _ _ h; cases h; done) | exact hL | exact ⟨hL, hR⟩ | exact hL.symm | exact ⟨hL.symm, hR.symm⟩, ?_⟩; conv => whnf))
                            rintro b rfl
                            have hsn : sayN { truncN n1 a1 with commit := k.commit } k.frm (ansM a1 true) = sayN n k.frm (ansM a1 true) := by unfold sayN; simp only [hk1, hk2]
                            refine ⟨⟨{ truncN n1 a1 with commit := k.commit }, (truncN n1 a1).log.items, os ++ [⟨sayN { truncN n1 a1 with commit := k.commit } k.frm (ansM a1 true), none, 0⟩]⟩, ⟨by rw [hr], ⟨Nat.le_refl _, List.take_length⟩, by rw [hr]; exact (Since.refl os).snoc hsn, hsaid.snoc (Cells.nil _ _)⟩, ?_⟩
                            conv => whnf
                            repeat (first | exact trivial | exact fun _ _ h => h | (refine ⟨by first | exact ⟨rfl, rfl, rfl⟩ | rfl | exact ⟨rfl, rfl⟩ | exact ⟨rfl, fun _ _ => rfl⟩ | exact fun _ _ h => h | (intro _ _ h; cases h; done) | exact hL | exact ⟨hL, hR⟩ | exact hL.symm | exact ⟨hL.symm, hR.symm⟩, ?_⟩; conv => whnf))
                            all_goals exact hext
                          · have h2 : ¬ k.commit > (truncN n1 a1).commit := of_decide_eq_false h2
                            have hcm : max (truncN n1 a1).commit (min k.commit a1) = (truncN n1 a1).commit := by omega
                            rw [hcm] at hr
                            conv => whnf
                            refine ⟨⟨{ truncN n1 a1 with commit := (truncN n1 a1).commit }, .own, os, m', k.frm, ansM a1 true, none, 0⟩, ⟨by show os.length < 1000; omega, Cells.nil _ _⟩, ?_⟩
                            conv => whnf
                            repeat (first | exact trivial | (refine ⟨by first | exact ⟨rfl, rfl, rfl⟩ | rfl | exact ⟨rfl, rfl⟩ | exact ⟨rfl, fun _ _ => rfl⟩ | exact fun _ _ h => h | (intro _ _ h; cases h; done) | exact hL | exact ⟨hL, hR⟩ | exact hL.symm | exact ⟨hL.symm, hR.symm⟩, ?_⟩; conv => whnf))
                            rintro b rfl
                            have hsn : sayN { truncN n1 a1 with commit := (truncN n1 a1).commit } k.frm (ansM a1 true) = sayN n k.frm (ansM a1 true) := by unfold sayN; simp only [hk1, hk2]
                            refine ⟨⟨{ truncN n1 a1 with commit := (truncN n1 a1).commit }, (truncN n1 a1).log.items, os ++ [⟨sayN { truncN n1 a1 with commit := (truncN n1 a1).commit } k.frm (ansM a1 true), none, 0⟩]⟩, ⟨by rw [hr], ⟨Nat.le_refl _, List.take_length⟩, by rw [hr]; exact (Since.refl os).snoc hsn, hsaid.snoc (Cells.nil _ _)⟩, ?_⟩
                            conv => whnf
                            repeat (first | exact trivial | exact fun _ _ h => h | (refine ⟨by first | exact ⟨rfl, rfl, rfl⟩ | rfl | exact ⟨rfl, rfl⟩ | exact ⟨rfl, fun _ _ => rfl⟩ | exact fun _ _ h => h | (intro _ _ h; cases h; done) | exact hL | exact ⟨hL, hR⟩ | exact hL.symm | exact ⟨hL.symm, hR.symm⟩, ?_⟩; conv => whnf))
                            all_goals exact hext
                      · have hsm : ¬ (truncN n1 a1).log.items.length ≥ 256 := by have h2 : ¬ ((0 + (h : Int).toNat : Nat) : Int) ≥ 256 := of_decide_eq_false hsm; omega
                        rw [if_neg hsm] at hgo
                        have hfp : Fit (pushN (truncN n1 a1) x) := ⟨hft.s1, hft.s2, hft.m1, hft.m2, hft.b1, hft.b2, by show ((truncN n1 a1).log.items ++ [x]).length ≤ 300; rw [List.length_append]; show _ + 1 ≤ 300; omega, hft.c1, hft.c2⟩
                        have hlp : lastI (pushN (truncN n1 a1) x) = lastI (truncN n1 a1) + 1 := by show (truncN n1 a1).log.base + (((truncN n1 a1).log.items ++ [x]).length : Int) = (truncN n1 a1).log.base + ((truncN n1 a1).log.items.length : Int) + 1; rw [List.length_append]; show _ + ((_ + 1 : Nat) : Int) = _; omega
                        obtain ⟨hpl, hpr⟩ := push_row (x := x) hL hR
                        conv => whnf
                        refine Or.inr ⟨[0, 5], sc58_35, by kernel_rfl, ?_⟩
                        conv => whnf
                        repeat (first | exact trivial | (refine ⟨by first | exact ⟨rfl, rfl, rfl⟩ | rfl | exact ⟨rfl, rfl⟩ | exact ⟨rfl, fun _ _ => rfl⟩ | exact fun _ _ h => h | (intro _ _ h; cases h; done) | exact Nat.le_refl _ | exact ⟨Nat.le_refl _, by show (0 + (h : Int).toNat + 1) * 56 ≤ _; omega, by omega⟩, ?_⟩; conv => whnf))
                        refine ⟨⟨i9 + 1, pushN (truncN n1 a1) x, a1 + 1⟩, rfl, ⟨⟨hlt, hgo, hfp, by show n1.log.base ≤ a1 + 1; omega, by rw [hlp]; exact Int.add_le_add_right hal 1⟩, by show t - (i9 + 1) < t - i9; omega⟩, ?_⟩
                        conv => whnf
                        repeat (first | exact trivial | (refine ⟨by first | exact ⟨rfl, rfl, rfl⟩ | rfl | exact ⟨rfl, rfl⟩ | exact ⟨rfl, fun _ _ => rfl⟩ | exact fun _ _ h => h | (intro _ _ h; cases h; done) | exact wrapi_succ (by omega) | exact hwa | exact hpl | exact ⟨hpl, hpr⟩ | exact hpl.symm | exact ⟨hpl.symm, hpr.symm⟩, ?_⟩; conv => whnf))
                    · have hcut : cutB n1 a1 x = false := hc
                      have hcn : cutN n1 a1 x = n1 := by unfold cutN; rw [hcut]
                      rw [hcn] at hgo
                      conv => whnf
                      refine ⟨fun hunk => ?_, fun hkn => ?_⟩
                      · have hunk : (termAtN n1.log (a1 + 1)).2 = false := by simpa using hunk
                        have hge1 : ¬ a1 < lastI n1 := fun hlt2 => by
                          have := known_of (l := n1.log) (i := a1 + 1) (by omega) (by omega)
                          rw [this] at hunk; cases hunk
                        rw [if_neg hge1] at hgo
                        have hL : n1.log.items.length = n1.log.items.length := rfl
                        have hR : itemsV n1.log.items = itemsV n1.log.items := rfl
                        have hft := hf1
                        have hal := hb2'
                        conv => whnf
                        refine ⟨fun hbig => ?_, fun hsm => ?_⟩
                        · have hbig : (n1).log.items.length ≥ 256 := by have h2 : ((n1.log.items.length : Nat) : Int) ≥ 256 := of_decide_eq_true hbig; omega
                          rw [if_pos hbig] at hgo
                          conv => whnf
                          rw [hgo] at hlk
                          have hk1 : (n1).me = n.me := hlk.1
                          have hk2 : (n1).log.term = n.log.term := hlk.2.1
                          have hr : appendR n k = ⟨{ n1 with commit := max (n1).commit (min k.commit a1) }, some (ansM a1 true)⟩ := by rw [happ]; unfold layR; rw [if_neg (by rw [hcl]; decide), hgo]
                          refine ⟨fun h1 => ?_, fun h1 => ?_⟩
                          · have h1 : a1 < k.commit := of_decide_eq_true h1
                            conv => whnf
                            refine ⟨fun h2 => ?_, fun h2 => ?_⟩
                            · have h2 : a1 > (n1).commit := of_decide_eq_true h2
                              have hcm : max (n1).commit (min k.commit a1) = a1 := by omega
                              rw [hcm] at hr
                              conv => whnf
                              refine ⟨⟨{ n1 with commit := a1 }, .own, os, m', k.frm, ansM a1 true, none, 0⟩, ⟨by show os.length < 1000; omega, Cells.nil _ _⟩, ?_⟩
                              conv => whnf
                              repeat (first | exact trivial | (refine ⟨by first | exact ⟨rfl, rfl, rfl⟩ | rfl | exact ⟨rfl, rfl⟩ | exact ⟨rfl, fun _ _ => rfl⟩ | exact fun _ _ h => h | (intro _ _ h; cases h; done) | exact hL | exact ⟨hL, hR⟩ | exact hL.symm | exact ⟨hL.symm, hR.symm⟩, ?_⟩; conv => whnf))
                              rintro b rfl
                              have hsn : sayN { n1 with commit := a1 } k.frm (ansM a1 true) = sayN n k.frm (ansM a1 true) := by unfold sayN; simp only [hk1, hk2]
                              refine ⟨⟨{ n1 with commit := a1 }, (n1).log.items, os ++ [⟨sayN { n1 with commit := a1 } k.frm (ansM a1 true), none, 0⟩]⟩, ⟨by rw [hr], ⟨Nat.le_refl _, List.take_length⟩, by rw [hr]; exact (Since.refl os).snoc hsn, hsaid.snoc (Cells.nil _ _)⟩, ?_⟩
                              conv => whnf
                              repeat (first | exact trivial | exact fun _ _ h => h | (refine ⟨by first | exact ⟨rfl, rfl, rfl⟩ | rfl | exact ⟨rfl, rfl⟩ | exact ⟨rfl, fun _ _ => rfl⟩ | exact fun _ _ h => h | (intro _ _ h; cases h; done) | exact hL | exact ⟨hL, hR⟩ | exact hL.symm | exact ⟨hL.symm, hR.symm⟩, ?_⟩; conv => whnf))
                              all_goals exact hext
                            · have h2 : ¬ a1 > (n1).commit := of_decide_eq_false h2
                              have hcm : max (n1).commit (min k.commit a1) = (n1).commit := by omega
                              rw [hcm] at hr
                              conv => whnf
                              refine ⟨⟨{ n1 with commit := (n1).commit }, .own, os, m', k.frm, ansM a1 true, none, 0⟩, ⟨by show os.length < 1000; omega, Cells.nil _ _⟩, ?_⟩
                              conv => whnf
                              repeat (first | exact trivial | (refine ⟨by first | exact ⟨rfl, rfl, rfl⟩ | rfl | exact ⟨rfl, rfl⟩ | exact ⟨rfl, fun _ _ => rfl⟩ | exact fun _ _ h => h | (intro _ _ h; cases h; done) | exact hL | exact ⟨hL, hR⟩ | exact hL.symm | exact ⟨hL.symm, hR.symm⟩, ?_⟩; conv => whnf))
                              rintro b rfl
                              have hsn : sayN { n1 with commit := (n1).commit } k.frm (ansM a1 true) = sayN n k.frm (ansM a1 true) := by unfold sayN; simp only [hk1, hk2]
                              refine ⟨⟨{ n1 with commit := (n1).commit }, (n1).log.items, os ++ [⟨sayN { n1 with commit := (n1).commit } k.frm (ansM a1 true), none, 0⟩]⟩, ⟨by rw [hr], ⟨Nat.le_refl _, List.take_length⟩, by rw [hr]; exact (Since.refl os).snoc hsn, hsaid.snoc (Cells.nil _ _)⟩, ?_⟩
                              conv => whnf
                              repeat (first | exact trivial | exact fun _ _ h => h | (refine ⟨by first | exact ⟨rfl, rfl, rfl⟩ | rfl | exact ⟨rfl, rfl⟩ | exact ⟨rfl, fun _ _ => rfl⟩ | exact fun _ _ h => h | (intro _ _ h; cases h; done) | exact hL | exact ⟨hL, hR⟩ | exact hL.symm | exact ⟨hL.symm, hR.symm⟩, ?_⟩; conv => whnf))
                              all_goals exact hext
                          · have h1 : ¬ a1 < k.commit := of_decide_eq_false h1
                            conv => whnf
                            refine ⟨fun h2 => ?_, fun h2 => ?_⟩
                            · have h2 : k.commit > (n1).commit := of_decide_eq_true h2
                              have hcm : max (n1).commit (min k.commit a1) = k.commit := by omega
                              rw [hcm] at hr
                              conv => whnf
                              refine ⟨⟨{ n1 with commit := k.commit }, .own, os, m', k.frm, ansM a1 true, none, 0⟩, ⟨by show os.length < 1000; omega, Cells.nil _ _⟩, ?_⟩
                              conv => whnf
                              repeat (first | exact trivial | (refine ⟨by first | exact ⟨rfl, rfl, rfl⟩ | rfl | exact ⟨rfl, rfl⟩ | exact ⟨rfl, fun _ _ => rfl⟩ | exact fun _ _ h => h | (intro _ _ h; cases h; done) | exact hL | exact ⟨hL, hR⟩ | exact hL.symm | exact ⟨hL.symm, hR.symm⟩, ?_⟩; conv => whnf))
                              rintro b rfl
                              have hsn : sayN { n1 with commit := k.commit } k.frm (ansM a1 true) = sayN n k.frm (ansM a1 true) := by unfold sayN; simp only [hk1, hk2]
                              refine ⟨⟨{ n1 with commit := k.commit }, (n1).log.items, os ++ [⟨sayN { n1 with commit := k.commit } k.frm (ansM a1 true), none, 0⟩]⟩, ⟨by rw [hr], ⟨Nat.le_refl _, List.take_length⟩, by rw [hr]; exact (Since.refl os).snoc hsn, hsaid.snoc (Cells.nil _ _)⟩, ?_⟩
                              conv => whnf
                              repeat (first | exact trivial | exact fun _ _ h => h | (refine ⟨by first | exact ⟨rfl, rfl, rfl⟩ | rfl | exact ⟨rfl, rfl⟩ | exact ⟨rfl, fun _ _ => rfl⟩ | exact fun _ _ h => h | (intro _ _ h; cases h; done) | exact hL | exact ⟨hL, hR⟩ | exact hL.symm | exact ⟨hL.symm, hR.symm⟩, ?_⟩; conv => whnf))
                              all_goals exact hext
                            · have h2 : ¬ k.commit > (n1).commit := of_decide_eq_false h2
                              have hcm : max (n1).commit (min k.commit a1) = (n1).commit := by omega
                              rw [hcm] at hr
                              conv => whnf
                              refine ⟨⟨{ n1 with commit := (n1).commit }, .own, os, m', k.frm, ansM a1 true, none, 0⟩, ⟨by show os.length < 1000; omega, Cells.nil _ _⟩, ?_⟩
                              conv => whnf
                              repeat (first | exact trivial | (refine ⟨by first | exact ⟨rfl, rfl, rfl⟩ | rfl | exact ⟨rfl, rfl⟩ | exact ⟨rfl, fun _ _ => rfl⟩ | exact fun _ _ h => h | (intro _ _ h; cases h; done) | exact hL | exact ⟨hL, hR⟩ | exact hL.symm | exact ⟨hL.symm, hR.symm⟩, ?_⟩; conv => whnf))
                              rintro b rfl
                              have hsn : sayN { n1 with commit := (n1).commit } k.frm (ansM a1 true) = sayN n k.frm (ansM a1 true) := by unfold sayN; simp only [hk1, hk2]
                              refine ⟨⟨{ n1 with commit := (n1).commit }, (n1).log.items, os ++ [⟨sayN { n1 with commit := (n1).commit } k.frm (ansM a1 true), none, 0⟩]⟩, ⟨by rw [hr], ⟨Nat.le_refl _, List.take_length⟩, by rw [hr]; exact (Since.refl os).snoc hsn, hsaid.snoc (Cells.nil _ _)⟩, ?_⟩
                              conv => whnf
                              repeat (first | exact trivial | exact fun _ _ h => h | (refine ⟨by first | exact ⟨rfl, rfl, rfl⟩ | rfl | exact ⟨rfl, rfl⟩ | exact ⟨rfl, fun _ _ => rfl⟩ | exact fun _ _ h => h | (intro _ _ h; cases h; done) | exact hL | exact ⟨hL, hR⟩ | exact hL.symm | exact ⟨hL.symm, hR.symm⟩, ?_⟩; conv => whnf))
                              all_goals exact hext
                        · have hsm : ¬ (n1).log.items.length ≥ 256 := by have h2 : ¬ ((n1.log.items.length : Nat) : Int) ≥ 256 := of_decide_eq_false hsm; omega
                          rw [if_neg hsm] at hgo
                          have hfp : Fit (pushN (n1) x) := ⟨hft.s1, hft.s2, hft.m1, hft.m2, hft.b1, hft.b2, by show ((n1).log.items ++ [x]).length ≤ 300; rw [List.length_append]; show _ + 1 ≤ 300; omega, hft.c1, hft.c2⟩
                          have hlp : lastI (pushN (n1) x) = lastI (n1) + 1 := by show (n1).log.base + (((n1).log.items ++ [x]).length : Int) = (n1).log.base + ((n1).log.items.length : Int) + 1; rw [List.length_append]; show _ + ((_ + 1 : Nat) : Int) = _; omega
                          obtain ⟨hpl, hpr⟩ := push_row (x := x) hL hR
                          conv => whnf
                          refine Or.inr ⟨[0, 5], sc58_35, by kernel_rfl, ?_⟩
                          conv => whnf
                          repeat (first | exact trivial | (refine ⟨by first | exact ⟨rfl, rfl, rfl⟩ | rfl | exact ⟨rfl, rfl⟩ | exact ⟨rfl, fun _ _ => rfl⟩ | exact fun _ _ h => h | (intro _ _ h; cases h; done) | exact Nat.le_refl _ | exact ⟨Nat.le_refl _, by show (n1.log.items.length + 1) * 56 ≤ _; omega, by omega⟩, ?_⟩; conv => whnf))
                          refine ⟨⟨i9 + 1, pushN (n1) x, a1 + 1⟩, rfl, ⟨⟨hlt, hgo, hfp, by show n1.log.base ≤ a1 + 1; omega, by rw [hlp]; exact Int.add_le_add_right hal 1⟩, by show t - (i9 + 1) < t - i9; omega⟩, ?_⟩
                          conv => whnf
                          repeat (first | exact trivial | (refine ⟨by first | exact ⟨rfl, rfl, rfl⟩ | rfl | exact ⟨rfl, rfl⟩ | exact ⟨rfl, fun _ _ => rfl⟩ | exact fun _ _ h => h | (intro _ _ h; cases h; done) | exact wrapi_succ (by omega) | exact hwa | exact hpl | exact ⟨hpl, hpr⟩ | exact hpl.symm | exact ⟨hpl.symm, hpr.symm⟩, ?_⟩; conv => whnf))
                      · have hkn : (termAtN n1.log (a1 + 1)).2 = true := by simpa using hkn
                        have hin := known_in hkn
                        rw [if_pos (by omega)] at hgo
                        refine ⟨⟨i9 + 1, n1, a1 + 1⟩, rfl, ⟨⟨hlt, hgo, hf1, by omega, by omega⟩, by show t - (i9 + 1) < t - i9; omega⟩, ?_⟩
                        conv => whnf
                        repeat (first | exact trivial | (refine ⟨by first | exact ⟨rfl, rfl, rfl⟩ | rfl | exact ⟨rfl, rfl⟩ | exact ⟨rfl, fun _ _ => rfl⟩ | exact fun _ _ h => h | (intro _ _ h; cases h; done) | exact wrapi_succ (by omega) | exact hwa, ?_⟩; conv => whnf))
                  · have hge : i9 = t := by have h2 : ¬ (i9 : Int) < (t : Int) := of_decide_eq_false hge; omega
                    rw [hge, hs, List.drop_length] at hgo
                    have hgo : layGo n ((k.last + (i : Int))) ((k.items.drop i)) = ⟨n1, a1⟩ := hgo
                    conv => whnf
                    rw [hgo] at hlk
                    have hk1 : (n1).me = n.me := hlk.1
                    have hk2 : (n1).log.term = n.log.term := hlk.2.1
                    have hr : appendR n k = ⟨{ n1 with commit := max (n1).commit (min k.commit a1) }, some (ansM a1 true)⟩ := by rw [happ]; unfold layR; rw [if_neg (by rw [hcl]; decide), hgo]
                    refine ⟨fun h1 => ?_, fun h1 => ?_⟩
                    · have h1 : a1 < k.commit := of_decide_eq_true h1
                      conv => whnf
                      refine ⟨fun h2 => ?_, fun h2 => ?_⟩
                      · have h2 : a1 > (n1).commit := of_decide_eq_true h2
                        have hcm : max (n1).commit (min k.commit a1) = a1 := by omega
                        rw [hcm] at hr
                        conv => whnf
                        refine ⟨⟨{ n1 with commit := a1 }, .own, os, m', k.frm, ansM a1 true, none, 0⟩, ⟨by show os.length < 1000; omega, Cells.nil _ _⟩, ?_⟩
                        conv => whnf
                        repeat (first | exact trivial | (refine ⟨by first | exact ⟨rfl, rfl, rfl⟩ | rfl | exact ⟨rfl, rfl⟩ | exact ⟨rfl, fun _ _ => rfl⟩ | exact fun _ _ h => h | (intro _ _ h; cases h; done) | rfl, ?_⟩; conv => whnf))
                        rintro b rfl
                        have hsn : sayN { n1 with commit := a1 } k.frm (ansM a1 true) = sayN n k.frm (ansM a1 true) := by unfold sayN; simp only [hk1, hk2]
                        refine ⟨⟨{ n1 with commit := a1 }, (n1).log.items, os ++ [⟨sayN { n1 with commit := a1 } k.frm (ansM a1 true), none, 0⟩]⟩, ⟨by rw [hr], ⟨Nat.le_refl _, List.take_length⟩, by rw [hr]; exact (Since.refl os).snoc hsn, hsaid.snoc (Cells.nil _ _)⟩, ?_⟩
                        conv => whnf
                        repeat (first | exact trivial | exact fun _ _ h => h | (refine ⟨by first | exact ⟨rfl, rfl, rfl⟩ | rfl | exact ⟨rfl, rfl⟩ | exact ⟨rfl, fun _ _ => rfl⟩ | exact fun _ _ h => h | (intro _ _ h; cases h; done) | rfl, ?_⟩; conv => whnf))
                        all_goals exact hext
                      · have h2 : ¬ a1 > (n1).commit := of_decide_eq_false h2
                        have hcm : max (n1).commit (min k.commit a1) = (n1).commit := by omega
                        rw [hcm] at hr
                        conv => whnf
                        refine ⟨⟨{ n1 with commit := (n1).commit }, .own, os, m', k.frm, ansM a1 true, none, 0⟩, ⟨by show os.length < 1000; omega, Cells.nil _ _⟩, ?_⟩
                        conv => whnf
                        repeat (first | exact trivial | (refine ⟨by first | exact ⟨rfl, rfl, rfl⟩ | rfl | exact ⟨rfl, rfl⟩ | exact ⟨rfl, fun _ _ => rfl⟩ | exact fun _ _ h => h | (intro _ _ h; cases h; done) | rfl, ?_⟩; conv => whnf))
                        rintro b rfl
                        have hsn : sayN { n1 with commit := (n1).commit } k.frm (ansM a1 true) = sayN n k.frm (ansM a1 true) := by unfold sayN; simp only [hk1, hk2]
                        refine ⟨⟨{ n1 with commit := (n1).commit }, (n1).log.items, os ++ [⟨sayN { n1 with commit := (n1).commit } k.frm (ansM a1 true), none, 0⟩]⟩, ⟨by rw [hr], ⟨Nat.le_refl _, List.take_length⟩, by rw [hr]; exact (Since.refl os).snoc hsn, hsaid.snoc (Cells.nil _ _)⟩, ?_⟩
                        conv => whnf
                        repeat (first | exact trivial | exact fun _ _ h => h | (refine ⟨by first | exact ⟨rfl, rfl, rfl⟩ | rfl | exact ⟨rfl, rfl⟩ | exact ⟨rfl, fun _ _ => rfl⟩ | exact fun _ _ h => h | (intro _ _ h; cases h; done) | rfl, ?_⟩; conv => whnf))
                        all_goals exact hext
                    · have h1 : ¬ a1 < k.commit := of_decide_eq_false h1
                      conv => whnf
                      refine ⟨fun h2 => ?_, fun h2 => ?_⟩
                      · have h2 : k.commit > (n1).commit := of_decide_eq_true h2
                        have hcm : max (n1).commit (min k.commit a1) = k.commit := by omega
                        rw [hcm] at hr
                        conv => whnf
                        refine ⟨⟨{ n1 with commit := k.commit }, .own, os, m', k.frm, ansM a1 true, none, 0⟩, ⟨by show os.length < 1000; omega, Cells.nil _ _⟩, ?_⟩
                        conv => whnf
                        repeat (first | exact trivial | (refine ⟨by first | exact ⟨rfl, rfl, rfl⟩ | rfl | exact ⟨rfl, rfl⟩ | exact ⟨rfl, fun _ _ => rfl⟩ | exact fun _ _ h => h | (intro _ _ h; cases h; done) | rfl, ?_⟩; conv => whnf))
                        rintro b rfl
                        have hsn : sayN { n1 with commit := k.commit } k.frm (ansM a1 true) = sayN n k.frm (ansM a1 true) := by unfold sayN; simp only [hk1, hk2]
                        refine ⟨⟨{ n1 with commit := k.commit }, (n1).log.items, os ++ [⟨sayN { n1 with commit := k.commit } k.frm (ansM a1 true), none, 0⟩]⟩, ⟨by rw [hr], ⟨Nat.le_refl _, List.take_length⟩, by rw [hr]; exact (Since.refl os).snoc hsn, hsaid.snoc (Cells.nil _ _)⟩, ?_⟩
                        conv => whnf
                        repeat (first | exact trivial | exact fun _ _ h => h | (refine ⟨by first | exact ⟨rfl, rfl, rfl⟩ | rfl | exact ⟨rfl, rfl⟩ | exact ⟨rfl, fun _ _ => rfl⟩ | exact fun _ _ h => h | (intro _ _ h; cases h; done) | rfl, ?_⟩; conv => whnf))
                        all_goals exact hext
                      · have h2 : ¬ k.commit > (n1).commit := of_decide_eq_false h2
                        have hcm : max (n1).commit (min k.commit a1) = (n1).commit := by omega
                        rw [hcm] at hr
                        conv => whnf
                        refine ⟨⟨{ n1 with commit := (n1).commit }, .own, os, m', k.frm, ansM a1 true, none, 0⟩, ⟨by show os.length < 1000; omega, Cells.nil _ _⟩, ?_⟩
                        conv => whnf
                        repeat (first | exact trivial | (refine ⟨by first | exact ⟨rfl, rfl, rfl⟩ | rfl | exact ⟨rfl, rfl⟩ | exact ⟨rfl, fun _ _ => rfl⟩ | exact fun _ _ h => h | (intro _ _ h; cases h; done) | rfl, ?_⟩; conv => whnf))
                        rintro b rfl
                        have hsn : sayN { n1 with commit := (n1).commit } k.frm (ansM a1 true) = sayN n k.frm (ansM a1 true) := by unfold sayN; simp only [hk1, hk2]
                        refine ⟨⟨{ n1 with commit := (n1).commit }, (n1).log.items, os ++ [⟨sayN { n1 with commit := (n1).commit } k.frm (ansM a1 true), none, 0⟩]⟩, ⟨by rw [hr], ⟨Nat.le_refl _, List.take_length⟩, by rw [hr]; exact (Since.refl os).snoc hsn, hsaid.snoc (Cells.nil _ _)⟩, ?_⟩
                        conv => whnf
                        repeat (first | exact trivial | exact fun _ _ h => h | (refine ⟨by first | exact ⟨rfl, rfl, rfl⟩ | rfl | exact ⟨rfl, rfl⟩ | exact ⟨rfl, fun _ _ => rfl⟩ | exact fun _ _ h => h | (intro _ _ h; cases h; done) | rfl, ?_⟩; conv => whnf))
                        all_goals exact hext
  · have hhigh : ¬ k.last < n.log.base := of_decide_eq_false hhigh
    conv => whnf
    intro A2 cap2 m2 hS2
    refine ⟨⟨n.log, A2, cap2, k.last, m2⟩, ⟨.of_sealed hS2, by show n.log.items.length < 2 ^ 62; omega, ⟨by omega, by omega⟩, ⟨by omega, by omega⟩⟩, ?_⟩
    conv => whnf
    repeat (first | exact trivial | (refine ⟨by first | exact ⟨rfl, rfl, rfl⟩ | rfl | exact ⟨rfl, rfl⟩ | exact ⟨rfl, fun _ _ => rfl⟩ | exact fun _ _ h => h | (intro _ _ h; cases h; done), ?_⟩; conv => whnf))
    intro _ _
    conv => whnf
    refine ⟨fun hy => ?_, fun hn => ?_⟩
    · rw [ifor] at hy
      have hr : appendR n k = ⟨n, some (ansM (max (min (lastI n) (k.last - 1)) n.log.base) false)⟩ := by
        unfold appendR
        rw [if_neg hhigh, if_pos]
        simpa [bne] using hy
      have hw1 : IntKind.i64.wrap (k.last - 1) = k.last - 1 := wrapi ⟨by omega, by omega⟩
      conv => whnf
      intro A3 cap3 m3 hS3
      refine ⟨⟨n.log, A3, cap3, m3⟩, ⟨.of_sealed hS3, by show n.log.items.length < 2 ^ 62; omega⟩, ?_⟩
      conv => whnf
      repeat (first | exact trivial | (refine ⟨by first | exact ⟨rfl, rfl, rfl⟩ | rfl | exact ⟨rfl, rfl⟩ | exact ⟨rfl, fun _ _ => rfl⟩ | exact fun _ _ h => h | (intro _ _ h; cases h; done), ?_⟩; conv => whnf))
      intro _ _
      conv => whnf
      refine ⟨fun hlt => ?_, fun hge => ?_⟩
      · have hlt : (lastN n.log).1 < IntKind.i64.wrap (k.last - 1) := of_decide_eq_true hlt
        rw [hw1] at hlt
        conv => whnf
        refine Or.inr ⟨[], sc58_17, by kernel_rfl, ?_⟩
        conv => whnf
        refine ⟨fun hlo => ?_, fun hhi => ?_⟩
        · have hlo : (lastN n.log).1 < n.log.base := of_decide_eq_true hlo
          conv => whnf
          have hv : max (min (lastI n) (k.last - 1)) n.log.base = n.log.base := by rw [hlast] at *; omega
          rw [hv] at hr
          refine ⟨⟨n, .own, os, m, k.frm, ansM (n.log.base) false, none, 0⟩, ⟨by show os.length < 1000; omega, Cells.nil _ _⟩, ?_⟩
          conv => whnf
          repeat (first | exact trivial | (refine ⟨by first | exact ⟨rfl, rfl, rfl⟩ | rfl | exact ⟨rfl, rfl⟩ | exact ⟨rfl, fun _ _ => rfl⟩ | exact fun _ _ h => h | (intro _ _ h; cases h; done), ?_⟩; conv => whnf))
          rintro b rfl
          refine ⟨⟨n, n.log.items, os ++ [⟨sayN n k.frm (ansM (n.log.base) false), none, 0⟩]⟩, ⟨by rw [hr], ⟨Nat.le_refl _, List.take_length⟩, by rw [hr]; exact (Since.refl os).snoc rfl, hsaid.snoc (Cells.nil _ _)⟩, ?_⟩
          conv => whnf
          repeat (first | exact trivial | exact fun _ _ h => h | (refine ⟨by first | exact ⟨rfl, rfl, rfl⟩ | rfl | exact ⟨rfl, rfl⟩ | exact ⟨rfl, fun _ _ => rfl⟩ | exact fun _ _ h => h | (intro _ _ h; cases h; done), ?_⟩; conv => whnf))
        · have hhi : ¬ (lastN n.log).1 < n.log.base := of_decide_eq_false hhi
          conv => whnf
          have hv : max (min (lastI n) (k.last - 1)) n.log.base = (lastN n.log).1 := by rw [hlast] at *; omega
          rw [hv] at hr
          refine ⟨⟨n, .own, os, m, k.frm, ansM ((lastN n.log).1) false, none, 0⟩, ⟨by show os.length < 1000; omega, Cells.nil _ _⟩, ?_⟩
          conv => whnf
          repeat (first | exact trivial | (refine ⟨by first | exact ⟨rfl, rfl, rfl⟩ | rfl | exact ⟨rfl, rfl⟩ | exact ⟨rfl, fun _ _ => rfl⟩ | exact fun _ _ h => h | (intro _ _ h; cases h; done), ?_⟩; conv => whnf))
          rintro b rfl
          refine ⟨⟨n, n.log.items, os ++ [⟨sayN n k.frm (ansM ((lastN n.log).1) false), none, 0⟩]⟩, ⟨by rw [hr], ⟨Nat.le_refl _, List.take_length⟩, by rw [hr]; exact (Since.refl os).snoc rfl, hsaid.snoc (Cells.nil _ _)⟩, ?_⟩
          conv => whnf
          repeat (first | exact trivial | exact fun _ _ h => h | (refine ⟨by first | exact ⟨rfl, rfl, rfl⟩ | rfl | exact ⟨rfl, rfl⟩ | exact ⟨rfl, fun _ _ => rfl⟩ | exact fun _ _ h => h | (intro _ _ h; cases h; done), ?_⟩; conv => whnf))
      · have hge : ¬ (lastN n.log).1 < IntKind.i64.wrap (k.last - 1) := of_decide_eq_false hge
        rw [hw1] at hge
        conv => whnf
        refine Or.inr ⟨[], sc58_17, by kernel_rfl, ?_⟩
        conv => whnf
        refine ⟨fun hlo => ?_, fun hhi => ?_⟩
        · have hlo : IntKind.i64.wrap (k.last - 1) < n.log.base := of_decide_eq_true hlo
          rw [hw1] at hlo
          conv => whnf
          have hv : max (min (lastI n) (k.last - 1)) n.log.base = n.log.base := by rw [hlast] at *; omega
          rw [hv] at hr
          refine ⟨⟨n, .own, os, m, k.frm, ansM (n.log.base) false, none, 0⟩, ⟨by show os.length < 1000; omega, Cells.nil _ _⟩, ?_⟩
          conv => whnf
          repeat (first | exact trivial | (refine ⟨by first | exact ⟨rfl, rfl, rfl⟩ | rfl | exact ⟨rfl, rfl⟩ | exact ⟨rfl, fun _ _ => rfl⟩ | exact fun _ _ h => h | (intro _ _ h; cases h; done), ?_⟩; conv => whnf))
          rintro b rfl
          refine ⟨⟨n, n.log.items, os ++ [⟨sayN n k.frm (ansM (n.log.base) false), none, 0⟩]⟩, ⟨by rw [hr], ⟨Nat.le_refl _, List.take_length⟩, by rw [hr]; exact (Since.refl os).snoc rfl, hsaid.snoc (Cells.nil _ _)⟩, ?_⟩
          conv => whnf
          repeat (first | exact trivial | exact fun _ _ h => h | (refine ⟨by first | exact ⟨rfl, rfl, rfl⟩ | rfl | exact ⟨rfl, rfl⟩ | exact ⟨rfl, fun _ _ => rfl⟩ | exact fun _ _ h => h | (intro _ _ h; cases h; done), ?_⟩; conv => whnf))
        · have hhi : ¬ IntKind.i64.wrap (k.last - 1) < n.log.base := of_decide_eq_false hhi
          conv => whnf
          have hv : max (min (lastI n) (k.last - 1)) n.log.base = IntKind.i64.wrap (k.last - 1) := by rw [hw1] at hhi ⊢; rw [hlast] at *; omega
          rw [hv] at hr
          refine ⟨⟨n, .own, os, m, k.frm, ansM (IntKind.i64.wrap (k.last - 1)) false, none, 0⟩, ⟨by show os.length < 1000; omega, Cells.nil _ _⟩, ?_⟩
          conv => whnf
          repeat (first | exact trivial | (refine ⟨by first | exact ⟨rfl, rfl, rfl⟩ | rfl | exact ⟨rfl, rfl⟩ | exact ⟨rfl, fun _ _ => rfl⟩ | exact fun _ _ h => h | (intro _ _ h; cases h; done), ?_⟩; conv => whnf))
          rintro b rfl
          refine ⟨⟨n, n.log.items, os ++ [⟨sayN n k.frm (ansM (IntKind.i64.wrap (k.last - 1)) false), none, 0⟩]⟩, ⟨by rw [hr], ⟨Nat.le_refl _, List.take_length⟩, by rw [hr]; exact (Since.refl os).snoc rfl, hsaid.snoc (Cells.nil _ _)⟩, ?_⟩
          conv => whnf
          repeat (first | exact trivial | exact fun _ _ h => h | (refine ⟨by first | exact ⟨rfl, rfl, rfl⟩ | rfl | exact ⟨rfl, rfl⟩ | exact ⟨rfl, fun _ _ => rfl⟩ | exact fun _ _ h => h | (intro _ _ h; cases h; done), ?_⟩; conv => whnf))
    · rw [ifor] at hn
      have hn2 : ¬ ((termAtN n.log k.last).2 = false ∨ (termAtN n.log k.last).1 ≠ k.lastTerm) := by
        simpa [bne] using hn
      have happ : appendR n k = layR n k k.last k.items := by
        unfold appendR
        rw [if_neg hhigh, if_neg hn2]
      have hknown : (termAtN n.log k.last).2 = true := by
        cases h : (termAtN n.log k.last).2 with
        | true => rfl
        | false => exact absurd (.inl h) hn2
      have hin := known_in hknown
      have hbase : n.log.base ≤ k.last := by omega
      have htop : k.last ≤ lastI n := by omega
      have hext : ∀ b o, m b = some o → m b = some o := fun _ _ h => h
      conv => whnf
      refine ⟨Nat, fun j9 => j9 ≤ s ∧ clashB n ((k.last) + (j9 : Int)) ((k.items).drop j9) = clashB n ((k.last)) (k.items), fun j9 => ⟨283, [⟨0, [], .p 0 0⟩, ⟨3, [], .p 3 0⟩, ⟨4, [], .i .i64 ((k.last))⟩, ⟨5, [], .rw 4 s⟩, ⟨149, [], .rw 4 s⟩, ⟨150, [], .i .i64 s⟩, ⟨151, [], .i .i64 j9⟩], [], (3, .st 29 (msgC k (.sl D k.items.length e))) :: (4, .row 44 6 s (itemsV k.items)) :: turnH 85 1 2 n .own os, 5⟩, fun _ => m, fun j9 => s - j9, ⟨0, rfl, ⟨Nat.zero_le _, by show clashB n ((k.last) + 0) (k.items) = _; rw [Int.add_zero]⟩, ?_⟩, ?_⟩
      conv => whnf
      · conv => whnf
        repeat (first | exact trivial | (refine ⟨by first | exact ⟨rfl, rfl, rfl⟩ | rfl | exact ⟨rfl, rfl⟩ | exact ⟨rfl, fun _ _ => rfl⟩ | exact fun _ _ h => h | (intro _ _ h; cases h; done) | exact ⟨rfl, hs.symm, rfl⟩ | (rw [hs, Nat.zero_add]; done) | (rw [Nat.zero_add]; exact ⟨hs.symm, rfl⟩) | (rw [hs, Nat.zero_add]; rfl), ?_⟩; conv => whnf))
      · rintro j9 ⟨hj, hcl⟩
        refine ⟨fun hlt => ?_, fun hge => ?_⟩
        conv => whnf
        · have hlt : j9 < s := by have h2 : (j9 : Int) < (s : Int) := of_decide_eq_true hlt; omega
          obtain ⟨x, hx⟩ := getIx (xs := k.items) (hs ▸ hlt)
          refine ⟨⟨Int.natCast_nonneg _, by show (j9 : Int) < (s : Int); omega, Nat.le_refl _⟩, ?_⟩
          conv => whnf
          refine ⟨.g (itemC x), ⟨rfl, rfl, rfl, own_le hx 0 6 (by omega), own_item hx⟩, ?_⟩
          conv => whnf
          have hcd := clash_drop (n := n) (a := (k.last)) hx
          have hw2 : IntKind.i64.wrap (IntKind.i64.wrap ((k.last) + 1) + (j9 : Int)) = (k.last) + (j9 : Int) + 1 := by rw [wrapi (x := (k.last) + 1) ⟨by omega, by omega⟩, wrapi ⟨by omega, by omega⟩]; omega
          intro A3 cap3 m3 hS3
          refine ⟨⟨n.log, A3, cap3, (k.last) + (j9 : Int) + 1, m3⟩, ⟨.of_sealed hS3, by show n.log.items.length < 2 ^ 62; omega, ⟨by omega, by omega⟩, ⟨by omega, by omega⟩⟩, ?_⟩
          conv => whnf
          repeat (first | exact trivial | (refine ⟨by first | exact ⟨rfl, rfl, rfl⟩ | rfl | exact ⟨rfl, rfl⟩ | exact ⟨rfl, fun _ _ => rfl⟩ | exact fun _ _ h => h | (intro _ _ h; cases h; done) | exact hw2 | exact hw2.symm, ?_⟩; conv => whnf))
          intro _ _
          conv => whnf
          refine ⟨fun hy => ?_, fun hn => ?_⟩
          · rw [hw2, ifand] at hy
            have hcl1 : clashB n ((k.last)) (k.items) = true := by rw [← hcl, hcd, hy]; rfl
            have hr : appendR n k = ⟨n, none⟩ := by rw [happ]; unfold layR; rw [if_pos hcl1]
            refine ⟨⟨n, n.log.items, os⟩, ⟨by rw [hr], ⟨Nat.le_refl _, List.take_length⟩, by rw [hr]; exact Since.refl os, hsaid⟩, ?_⟩
            conv => whnf
            repeat (first | exact trivial | exact fun _ _ h => h | (refine ⟨by first | exact ⟨rfl, rfl, rfl⟩ | rfl | exact ⟨rfl, rfl⟩ | exact ⟨rfl, fun _ _ => rfl⟩ | exact fun _ _ h => h | (intro _ _ h; cases h; done), ?_⟩; conv => whnf))
            all_goals exact hext
          · rw [hw2, ifand] at hn
            rw [hn, Bool.false_or] at hcd
            refine ⟨j9 + 1, rfl, ⟨⟨hlt, by rw [← hcl, hcd]⟩, by show s - (j9 + 1) < s - j9; omega⟩, ?_⟩
            conv => whnf
            repeat (first | exact trivial | (refine ⟨by first | exact ⟨rfl, rfl, rfl⟩ | rfl | exact ⟨rfl, rfl⟩ | exact ⟨rfl, fun _ _ => rfl⟩ | exact fun _ _ h => h | (intro _ _ h; cases h; done) | exact wrapi_succ (by omega), ?_⟩; conv => whnf))
        · have hge : j9 = s := by have h2 : ¬ (j9 : Int) < (s : Int) := of_decide_eq_false hge; omega
          rw [hge, hs, List.drop_length] at hcl
          have hcl : clashB n ((k.last)) (k.items) = false := hcl.symm
          refine ⟨LayT, fun ⟨i9, n1, a1⟩ => i9 ≤ s ∧ layGo n ((k.last)) (k.items) = layGo n1 a1 ((k.items).drop i9) ∧ Fit n1 ∧ n1.log.base ≤ a1 ∧ a1 ≤ lastI n1, fun ⟨i9, n1, a1⟩ => ⟨283, [⟨0, [], .p 0 0⟩, ⟨3, [], .p 3 0⟩, ⟨4, [], .i .i64 a1⟩, ⟨186, [], .rw 4 s⟩, ⟨187, [], .i .i64 s⟩, ⟨188, [], .i .i64 i9⟩], [], (3, .st 29 (msgC k (.sl D k.items.length e))) :: (4, .row 44 6 s (itemsV k.items)) :: turnH 85 1 5 n1 .own os, 6⟩, fun _ => m, fun ⟨i9, _, _⟩ => s - i9, ⟨⟨0, n, (k.last)⟩, rfl, ⟨Nat.zero_le _, rfl, hf0, hbase, htop⟩, ?_⟩, ?_⟩
          conv => whnf
          · conv => whnf
            repeat (first | exact trivial | (refine ⟨by first | exact ⟨rfl, rfl, rfl⟩ | rfl | exact ⟨rfl, rfl⟩ | exact ⟨rfl, fun _ _ => rfl⟩ | exact fun _ _ h => h | (intro _ _ h; cases h; done) | exact ⟨rfl, hs.symm, rfl⟩ | (rw [hs, Nat.zero_add]; done) | (rw [Nat.zero_add]; exact ⟨hs.symm, rfl⟩) | (rw [hs, Nat.zero_add]; rfl), ?_⟩; conv => whnf))
          · rintro ⟨i9, n1, a1⟩ ⟨hi, hgo, hf1, hb1', hb2'⟩
            have hlk := lay_keeps (k.items) n ((k.last))
            have hfb1 := hf1.b1
            have hfb2 := hf1.b2
            have hfl := hf1.l
            have hli1 : lastI n1 = n1.log.base + n1.log.items.length := rfl
            refine ⟨fun hlt => ?_, fun hge => ?_⟩
            conv => whnf
            · have hlt : i9 < s := by have h2 : (i9 : Int) < (s : Int) := of_decide_eq_true hlt; omega
              obtain ⟨x, hx⟩ := getIx (xs := k.items) (hs ▸ hlt)
              refine ⟨⟨Int.natCast_nonneg _, by show (i9 : Int) < (s : Int); omega, Nat.le_refl _⟩, ?_⟩
              conv => whnf
              refine ⟨.g (itemC x), ⟨rfl, rfl, rfl, own_le hx 0 6 (by omega), own_item hx⟩, ?_⟩
              conv => whnf
              have hld := lay_drop (n := n1) (a := a1) hx
              rw [hld] at hgo
              have hwa : IntKind.i64.wrap (a1 + 1) = a1 + 1 := wrapi ⟨by omega, by omega⟩
              intro A4 cap4 m4 hS4
              refine ⟨⟨n1.log, A4, cap4, a1 + 1, m4⟩, ⟨.of_sealed hS4, by show n1.log.items.length < 2 ^ 62; omega, ⟨by omega, by omega⟩, ⟨by omega, by omega⟩⟩, ?_⟩
              conv => whnf
              repeat (first | exact trivial | (refine ⟨by first | exact ⟨rfl, rfl, rfl⟩ | rfl | exact ⟨rfl, rfl⟩ | exact ⟨rfl, fun _ _ => rfl⟩ | exact fun _ _ h => h | (intro _ _ h; cases h; done) | exact hwa | exact hwa.symm, ?_⟩; conv => whnf))
              intro _ _
              refine ⟨fun hc => ?_, fun hc => ?_⟩
              conv => whnf
              · have hcut : cutB n1 a1 x = true := hc
                have hcn : cutN n1 a1 x = truncN n1 a1 := by unfold cutN; rw [hcut]
                rw [hcn] at hgo
                have hk : (termAtN n1.log (a1 + 1)).2 = true := by unfold cutB at hcut; cases h : (termAtN n1.log (a1 + 1)).2 with | true => rfl | false => rw [h] at hcut; cases hcut
                have hin := known_in hk
                have hh0 : ((a1 - n1.log.base).toNat : Int) = a1 - n1.log.base := by omega
                obtain ⟨h, hh⟩ : ∃ h : Nat, h = (a1 - n1.log.base).toNat := ⟨_, rfl⟩
                rw [← hh] at hh0
                have hwh : IntKind.i64.wrap (a1 - n1.log.base) = (h : Int) := by rw [wrapi ⟨by omega, by omega⟩]; omega
                have hle : h ≤ n1.log.items.length := by omega
                have hlen : h = (truncN n1 a1).log.items.length := by show _ = (n1.log.items.take (a1 - n1.log.base).toNat).length; rw [List.length_take, ← hh]; omega
                have hlt1 : ¬ a1 < lastI (truncN n1 a1) := by show ¬ a1 < n1.log.base + ((truncN n1 a1).log.items.length : Int); rw [← hlen]; omega
                have hrow1 : (itemsV n1.log.items).take (h * 6) = itemsV (truncN n1 a1).log.items := by rw [itemsV_take, hh]; rfl
                have hft : Fit (truncN n1 a1) := ⟨hf1.s1, hf1.s2, hf1.m1, hf1.m2, hf1.b1, hf1.b2, by rw [← hlen]; omega, hf1.c1, hf1.c2⟩
                have hal : a1 ≤ lastI (truncN n1 a1) := by show a1 ≤ n1.log.base + ((truncN n1 a1).log.items.length : Int); rw [← hlen]; omega
                rw [if_neg hlt1] at hgo
                conv => whnf
                refine Or.inr ⟨[0, 5], sc58_31, by kernel_rfl, ?_⟩
                conv => whnf
                conv in (occs := *) (IntKind.wrap _ _) => all_goals rw [hwh]
                repeat (first | exact trivial | (refine ⟨by first | exact ⟨rfl, rfl, rfl⟩ | rfl | exact ⟨rfl, rfl⟩ | exact ⟨rfl, fun _ _ => rfl⟩ | exact fun _ _ h => h | (intro _ _ h; cases h; done) | exact Nat.le_refl _ | exact ⟨Int.natCast_nonneg _, by show (h : Int) ≤ (n1.log.items.length : Int); omega⟩ | exact hle | exact ⟨Nat.le_refl _, by show (0 + h) * 56 ≤ _; omega, by omega⟩, ?_⟩; conv => whnf))
                refine ⟨fun _ => ?_, fun h => (by cases h)⟩
                have hL : 0 + (h : Int).toNat = (truncN n1 a1).log.items.length := by rw [Nat.zero_add, Int.toNat_natCast]; exact hlen
                have hR : List.take (0 * 6) (dens η0 []) ++ List.take ((h : Int).toNat * 6) (itemsV n1.log.items) = itemsV (truncN n1 a1).log.items := by rw [Int.toNat_natCast]; exact hrow1
                conv => whnf
                refine ⟨fun hbig => ?_, fun hsm => ?_⟩
                · have hbig : (truncN n1 a1).log.items.length ≥ 256 := by have h2 : ((0 + (h : Int).toNat : Nat) : Int) ≥ 256 := of_decide_eq_true hbig; omega
                  rw [if_pos hbig] at hgo
                  conv => whnf
                  rw [hgo] at hlk
                  have hk1 : (truncN n1 a1).me = n.me := hlk.1
                  have hk2 : (truncN n1 a1).log.term = n.log.term := hlk.2.1
                  have hr : appendR n k = ⟨{ truncN n1 a1 with commit := max (truncN n1 a1).commit (min k.commit a1) }, some (ansM a1 true)⟩ := by rw [happ]; unfold layR; rw [if_neg (by rw [hcl]; decide), hgo]
                  refine ⟨fun h1 => ?_, fun h1 => ?_⟩
                  · have h1 : a1 < k.commit := of_decide_eq_true h1
                    conv => whnf
                    refine ⟨fun h2 => ?_, fun h2 => ?_⟩
                    · have h2 : a1 > (truncN n1 a1).commit := of_decide_eq_true h2
                      have hcm : max (truncN n1 a1).commit (min k.commit a1) = a1 := by omega
                      rw [hcm] at hr
                      conv => whnf
                      refine ⟨⟨{ truncN n1 a1 with commit := a1 }, .own, os, m, k.frm, ansM a1 true, none, 0⟩, ⟨by show os.length < 1000; omega, Cells.nil _ _⟩, ?_⟩
                      conv => whnf
                      repeat (first | exact trivial | (refine ⟨by first | exact ⟨rfl, rfl, rfl⟩ | rfl | exact ⟨rfl, rfl⟩ | exact ⟨rfl, fun _ _ => rfl⟩ | exact fun _ _ h => h | (intro _ _ h; cases h; done) | exact hL | exact ⟨hL, hR⟩ | exact hL.symm | exact ⟨hL.symm, hR.symm⟩, ?_⟩; conv => whnf))
                      rintro b rfl
                      have hsn : sayN { truncN n1 a1 with commit := a1 } k.frm (ansM a1 true) = sayN n k.frm (ansM a1 true) := by unfold sayN; simp only [hk1, hk2]
                      refine ⟨⟨{ truncN n1 a1 with commit := a1 }, (truncN n1 a1).log.items, os ++ [⟨sayN { truncN n1 a1 with commit := a1 } k.frm (ansM a1 true), none, 0⟩]⟩, ⟨by rw [hr], ⟨Nat.le_refl _, List.take_length⟩, by rw [hr]; exact (Since.refl os).snoc hsn, hsaid.snoc (Cells.nil _ _)⟩, ?_⟩
                      conv => whnf
                      repeat (first | exact trivial | exact fun _ _ h => h | (refine ⟨by first | exact ⟨rfl, rfl, rfl⟩ | rfl | exact ⟨rfl, rfl⟩ | exact ⟨rfl, fun _ _ => rfl⟩ | exact fun _ _ h => h | (intro _ _ h; cases h; done) | exact hL | exact ⟨hL, hR⟩ | exact hL.symm | exact ⟨hL.symm, hR.symm⟩, ?_⟩; conv => whnf))
                      all_goals exact hext
                    · have h2 : ¬ a1 > (truncN n1 a1).commit := of_decide_eq_false h2
                      have hcm : max (truncN n1 a1).commit (min k.commit a1) = (truncN n1 a1).commit := by omega
                      rw [hcm] at hr
                      conv => whnf
                      refine ⟨⟨{ truncN n1 a1 with commit := (truncN n1 a1).commit }, .own, os, m, k.frm, ansM a1 true, none, 0⟩, ⟨by show os.length < 1000; omega, Cells.nil _ _⟩, ?_⟩
                      conv => whnf
                      repeat (first | exact trivial | (refine ⟨by first | exact ⟨rfl, rfl, rfl⟩ | rfl | exact ⟨rfl, rfl⟩ | exact ⟨rfl, fun _ _ => rfl⟩ | exact fun _ _ h => h | (intro _ _ h; cases h; done) | exact hL | exact ⟨hL, hR⟩ | exact hL.symm | exact ⟨hL.symm, hR.symm⟩, ?_⟩; conv => whnf))
                      rintro b rfl
                      have hsn : sayN { truncN n1 a1 with commit := (truncN n1 a1).commit } k.frm (ansM a1 true) = sayN n k.frm (ansM a1 true) := by unfold sayN; simp only [hk1, hk2]
                      refine ⟨⟨{ truncN n1 a1 with commit := (truncN n1 a1).commit }, (truncN n1 a1).log.items, os ++ [⟨sayN { truncN n1 a1 with commit := (truncN n1 a1).commit } k.frm (ansM a1 true), none, 0⟩]⟩, ⟨by rw [hr], ⟨Nat.le_refl _, List.take_length⟩, by rw [hr]; exact (Since.refl os).snoc hsn, hsaid.snoc (Cells.nil _ _)⟩, ?_⟩
                      conv => whnf
                      repeat (first | exact trivial | exact fun _ _ h => h | (refine ⟨by first | exact ⟨rfl, rfl, rfl⟩ | rfl | exact ⟨rfl, rfl⟩ | exact ⟨rfl, fun _ _ => rfl⟩ | exact fun _ _ h => h | (intro _ _ h; cases h; done) | exact hL | exact ⟨hL, hR⟩ | exact hL.symm | exact ⟨hL.symm, hR.symm⟩, ?_⟩; conv => whnf))
                      all_goals exact hext
                  · have h1 : ¬ a1 < k.commit := of_decide_eq_false h1
                    conv => whnf
                    refine ⟨fun h2 => ?_, fun h2 => ?_⟩
                    · have h2 : k.commit > (truncN n1 a1).commit := of_decide_eq_true h2
                      have hcm : max (truncN n1 a1).commit (min k.commit a1) = k.commit := by omega
                      rw [hcm] at hr
                      conv => whnf
                      refine ⟨⟨{ truncN n1 a1 with commit := k.commit }, .own, os, m, k.frm, ansM a1 true, none, 0⟩, ⟨by show os.length < 1000; omega, Cells.nil _ _⟩, ?_⟩
                      conv => whnf
                      repeat (first | exact trivial | (refine ⟨by first | exact ⟨rfl, rfl, rfl⟩ | rfl | exact ⟨rfl, rfl⟩ | exact ⟨rfl, fun _ _ => rfl⟩ | exact fun _ _ h => h | (intro _ _ h; cases h; done) | exact hL | exact ⟨hL, hR⟩ | exact hL.symm | exact ⟨hL.symm, hR.symm⟩, ?_⟩; conv => whnf))
                      rintro b rfl
                      have hsn : sayN { truncN n1 a1 with commit := k.commit } k.frm (ansM a1 true) = sayN n k.frm (ansM a1 true) := by unfold sayN; simp only [hk1, hk2]
                      refine ⟨⟨{ truncN n1 a1 with commit := k.commit }, (truncN n1 a1).log.items, os ++ [⟨sayN { truncN n1 a1 with commit := k.commit } k.frm (ansM a1 true), none, 0⟩]⟩, ⟨by rw [hr], ⟨Nat.le_refl _, List.take_length⟩, by rw [hr]; exact (Since.refl os).snoc hsn, hsaid.snoc (Cells.nil _ _)⟩, ?_⟩
                      conv => whnf
                      repeat (first | exact trivial | exact fun _ _ h => h | (refine ⟨by first | exact ⟨rfl, rfl, rfl⟩ | rfl | exact ⟨rfl, rfl⟩ | exact ⟨rfl, fun _ _ => rfl⟩ | exact fun _ _ h => h | (intro _ _ h; cases h; done) | exact hL | exact ⟨hL, hR⟩ | exact hL.symm | exact ⟨hL.symm, hR.symm⟩, ?_⟩; conv => whnf))
                      all_goals exact hext
                    · have h2 : ¬ k.commit > (truncN n1 a1).commit := of_decide_eq_false h2
                      have hcm : max (truncN n1 a1).commit (min k.commit a1) = (truncN n1 a1).commit := by omega
                      rw [hcm] at hr
                      conv => whnf
                      refine ⟨⟨{ truncN n1 a1 with commit := (truncN n1 a1).commit }, .own, os, m, k.frm, ansM a1 true, none, 0⟩, ⟨by show os.length < 1000; omega, Cells.nil _ _⟩, ?_⟩
                      conv => whnf
                      repeat (first | exact trivial | (refine ⟨by first | exact ⟨rfl, rfl, rfl⟩ | rfl | exact ⟨rfl, rfl⟩ | exact ⟨rfl, fun _ _ => rfl⟩ | exact fun _ _ h => h | (intro _ _ h; cases h; done) | exact hL | exact ⟨hL, hR⟩ | exact hL.symm | exact ⟨hL.symm, hR.symm⟩, ?_⟩; conv => whnf))
                      rintro b rfl
                      have hsn : sayN { truncN n1 a1 with commit := (truncN n1 a1).commit } k.frm (ansM a1 true) = sayN n k.frm (ansM a1 true) := by unfold sayN; simp only [hk1, hk2]
                      refine ⟨⟨{ truncN n1 a1 with commit := (truncN n1 a1).commit }, (truncN n1 a1).log.items, os ++ [⟨sayN { truncN n1 a1 with commit := (truncN n1 a1).commit } k.frm (ansM a1 true), none, 0⟩]⟩, ⟨by rw [hr], ⟨Nat.le_refl _, List.take_length⟩, by rw [hr]; exact (Since.refl os).snoc hsn, hsaid.snoc (Cells.nil _ _)⟩, ?_⟩
                      conv => whnf
                      repeat (first | exact trivial | exact fun _ _ h => h | (refine ⟨by first | exact ⟨rfl, rfl, rfl⟩ | rfl | exact ⟨rfl, rfl⟩ | exact ⟨rfl, fun _ _ => rfl⟩ | exact fun _ _ h => h | (intro _ _ h; cases h; done) | exact hL | exact ⟨hL, hR⟩ | exact hL.symm | exact ⟨hL.symm, hR.symm⟩, ?_⟩; conv => whnf))
                      all_goals exact hext
                · have hsm : ¬ (truncN n1 a1).log.items.length ≥ 256 := by have h2 : ¬ ((0 + (h : Int).toNat : Nat) : Int) ≥ 256 := of_decide_eq_false hsm; omega
                  rw [if_neg hsm] at hgo
                  have hfp : Fit (pushN (truncN n1 a1) x) := ⟨hft.s1, hft.s2, hft.m1, hft.m2, hft.b1, hft.b2, by show ((truncN n1 a1).log.items ++ [x]).length ≤ 300; rw [List.length_append]; show _ + 1 ≤ 300; omega, hft.c1, hft.c2⟩
                  have hlp : lastI (pushN (truncN n1 a1) x) = lastI (truncN n1 a1) + 1 := by show (truncN n1 a1).log.base + (((truncN n1 a1).log.items ++ [x]).length : Int) = (truncN n1 a1).log.base + ((truncN n1 a1).log.items.length : Int) + 1; rw [List.length_append]; show _ + ((_ + 1 : Nat) : Int) = _; omega
                  obtain ⟨hpl, hpr⟩ := push_row (x := x) hL hR
                  conv => whnf
                  refine Or.inr ⟨[0, 6], sc58_35, by kernel_rfl, ?_⟩
                  conv => whnf
                  repeat (first | exact trivial | (refine ⟨by first | exact ⟨rfl, rfl, rfl⟩ | rfl | exact ⟨rfl, rfl⟩ | exact ⟨rfl, fun _ _ => rfl⟩ | exact fun _ _ h => h | (intro _ _ h; cases h; done) | exact Nat.le_refl _ | exact ⟨Nat.le_refl _, by show (0 + (h : Int).toNat + 1) * 56 ≤ _; omega, by omega⟩, ?_⟩; conv => whnf))
                  refine ⟨⟨i9 + 1, pushN (truncN n1 a1) x, a1 + 1⟩, rfl, ⟨⟨hlt, hgo, hfp, by show n1.log.base ≤ a1 + 1; omega, by rw [hlp]; exact Int.add_le_add_right hal 1⟩, by show s - (i9 + 1) < s - i9; omega⟩, ?_⟩
                  conv => whnf
                  repeat (first | exact trivial | (refine ⟨by first | exact ⟨rfl, rfl, rfl⟩ | rfl | exact ⟨rfl, rfl⟩ | exact ⟨rfl, fun _ _ => rfl⟩ | exact fun _ _ h => h | (intro _ _ h; cases h; done) | exact wrapi_succ (by omega) | exact hwa | exact hpl | exact ⟨hpl, hpr⟩ | exact hpl.symm | exact ⟨hpl.symm, hpr.symm⟩, ?_⟩; conv => whnf))
              · have hcut : cutB n1 a1 x = false := hc
                have hcn : cutN n1 a1 x = n1 := by unfold cutN; rw [hcut]
                rw [hcn] at hgo
                conv => whnf
                refine ⟨fun hunk => ?_, fun hkn => ?_⟩
                · have hunk : (termAtN n1.log (a1 + 1)).2 = false := by simpa using hunk
                  have hge1 : ¬ a1 < lastI n1 := fun hlt2 => by
                    have := known_of (l := n1.log) (i := a1 + 1) (by omega) (by omega)
                    rw [this] at hunk; cases hunk
                  rw [if_neg hge1] at hgo
                  have hL : n1.log.items.length = n1.log.items.length := rfl
                  have hR : itemsV n1.log.items = itemsV n1.log.items := rfl
                  have hft := hf1
                  have hal := hb2'
                  conv => whnf
                  refine ⟨fun hbig => ?_, fun hsm => ?_⟩
                  · have hbig : (n1).log.items.length ≥ 256 := by have h2 : ((n1.log.items.length : Nat) : Int) ≥ 256 := of_decide_eq_true hbig; omega
                    rw [if_pos hbig] at hgo
                    conv => whnf
                    rw [hgo] at hlk
                    have hk1 : (n1).me = n.me := hlk.1
                    have hk2 : (n1).log.term = n.log.term := hlk.2.1
                    have hr : appendR n k = ⟨{ n1 with commit := max (n1).commit (min k.commit a1) }, some (ansM a1 true)⟩ := by rw [happ]; unfold layR; rw [if_neg (by rw [hcl]; decide), hgo]
                    refine ⟨fun h1 => ?_, fun h1 => ?_⟩
                    · have h1 : a1 < k.commit := of_decide_eq_true h1
                      conv => whnf
                      refine ⟨fun h2 => ?_, fun h2 => ?_⟩
                      · have h2 : a1 > (n1).commit := of_decide_eq_true h2
                        have hcm : max (n1).commit (min k.commit a1) = a1 := by omega
                        rw [hcm] at hr
                        conv => whnf
                        refine ⟨⟨{ n1 with commit := a1 }, .own, os, m, k.frm, ansM a1 true, none, 0⟩, ⟨by show os.length < 1000; omega, Cells.nil _ _⟩, ?_⟩
                        conv => whnf
                        repeat (first | exact trivial | (refine ⟨by first | exact ⟨rfl, rfl, rfl⟩ | rfl | exact ⟨rfl, rfl⟩ | exact ⟨rfl, fun _ _ => rfl⟩ | exact fun _ _ h => h | (intro _ _ h; cases h; done) | exact hL | exact ⟨hL, hR⟩ | exact hL.symm | exact ⟨hL.symm, hR.symm⟩, ?_⟩; conv => whnf))
                        rintro b rfl
                        have hsn : sayN { n1 with commit := a1 } k.frm (ansM a1 true) = sayN n k.frm (ansM a1 true) := by unfold sayN; simp only [hk1, hk2]
                        refine ⟨⟨{ n1 with commit := a1 }, (n1).log.items, os ++ [⟨sayN { n1 with commit := a1 } k.frm (ansM a1 true), none, 0⟩]⟩, ⟨by rw [hr], ⟨Nat.le_refl _, List.take_length⟩, by rw [hr]; exact (Since.refl os).snoc hsn, hsaid.snoc (Cells.nil _ _)⟩, ?_⟩
                        conv => whnf
                        repeat (first | exact trivial | exact fun _ _ h => h | (refine ⟨by first | exact ⟨rfl, rfl, rfl⟩ | rfl | exact ⟨rfl, rfl⟩ | exact ⟨rfl, fun _ _ => rfl⟩ | exact fun _ _ h => h | (intro _ _ h; cases h; done) | exact hL | exact ⟨hL, hR⟩ | exact hL.symm | exact ⟨hL.symm, hR.symm⟩, ?_⟩; conv => whnf))
                        all_goals exact hext
                      · have h2 : ¬ a1 > (n1).commit := of_decide_eq_false h2
                        have hcm : max (n1).commit (min k.commit a1) = (n1).commit := by omega
                        rw [hcm] at hr
                        conv => whnf
                        refine ⟨⟨{ n1 with commit := (n1).commit }, .own, os, m, k.frm, ansM a1 true, none, 0⟩, ⟨by show os.length < 1000; omega, Cells.nil _ _⟩, ?_⟩
                        conv => whnf
                        repeat (first | exact trivial | (refine ⟨by first | exact ⟨rfl, rfl, rfl⟩ | rfl | exact ⟨rfl, rfl⟩ | exact ⟨rfl, fun _ _ => rfl⟩ | exact fun _ _ h => h | (intro _ _ h; cases h; done) | exact hL | exact ⟨hL, hR⟩ | exact hL.symm | exact ⟨hL.symm, hR.symm⟩, ?_⟩; conv => whnf))
                        rintro b rfl
                        have hsn : sayN { n1 with commit := (n1).commit } k.frm (ansM a1 true) = sayN n k.frm (ansM a1 true) := by unfold sayN; simp only [hk1, hk2]
                        refine ⟨⟨{ n1 with commit := (n1).commit }, (n1).log.items, os ++ [⟨sayN { n1 with commit := (n1).commit } k.frm (ansM a1 true), none, 0⟩]⟩, ⟨by rw [hr], ⟨Nat.le_refl _, List.take_length⟩, by rw [hr]; exact (Since.refl os).snoc hsn, hsaid.snoc (Cells.nil _ _)⟩, ?_⟩
                        conv => whnf
                        repeat (first | exact trivial | exact fun _ _ h => h | (refine ⟨by first | exact ⟨rfl, rfl, rfl⟩ | rfl | exact ⟨rfl, rfl⟩ | exact ⟨rfl, fun _ _ => rfl⟩ | exact fun _ _ h => h | (intro _ _ h; cases h; done) | exact hL | exact ⟨hL, hR⟩ | exact hL.symm | exact ⟨hL.symm, hR.symm⟩, ?_⟩; conv => whnf))
                        all_goals exact hext
                    · have h1 : ¬ a1 < k.commit := of_decide_eq_false h1
                      conv => whnf
                      refine ⟨fun h2 => ?_, fun h2 => ?_⟩
                      · have h2 : k.commit > (n1).commit := of_decide_eq_true h2
                        have hcm : max (n1).commit (min k.commit a1) = k.commit := by omega
                        rw [hcm] at hr
                        conv => whnf
                        refine ⟨⟨{ n1 with commit := k.commit }, .own, os, m, k.frm, ansM a1 true, none, 0⟩, ⟨by show os.length < 1000; omega, Cells.nil _ _⟩, ?_⟩
                        conv => whnf
                        repeat (first | exact trivial | (refine ⟨by first | exact ⟨rfl, rfl, rfl⟩ | rfl | exact ⟨rfl, rfl⟩ | exact ⟨rfl, fun _ _ => rfl⟩ | exact fun _ _ h => h | (intro _ _ h; cases h; done) | exact hL | exact ⟨hL, hR⟩ | exact hL.symm | exact ⟨hL.symm, hR.symm⟩, ?_⟩; conv => whnf))
                        rintro b rfl
                        have hsn : sayN { n1 with commit := k.commit } k.frm (ansM a1 true) = sayN n k.frm (ansM a1 true) := by unfold sayN; simp only [hk1, hk2]
                        refine ⟨⟨{ n1 with commit := k.commit }, (n1).log.items, os ++ [⟨sayN { n1 with commit := k.commit } k.frm (ansM a1 true), none, 0⟩]⟩, ⟨by rw [hr], ⟨Nat.le_refl _, List.take_length⟩, by rw [hr]; exact (Since.refl os).snoc hsn, hsaid.snoc (Cells.nil _ _)⟩, ?_⟩
                        conv => whnf
                        repeat (first | exact trivial | exact fun _ _ h => h | (refine ⟨by first | exact ⟨rfl, rfl, rfl⟩ | rfl | exact ⟨rfl, rfl⟩ | exact ⟨rfl, fun _ _ => rfl⟩ | exact fun _ _ h => h | (intro _ _ h; cases h; done) | exact hL | exact ⟨hL, hR⟩ | exact hL.symm | exact ⟨hL.symm, hR.symm⟩, ?_⟩; conv => whnf))
                        all_goals exact hext
                      · have h2 : ¬ k.commit > (n1).commit := of_decide_eq_false h2
                        have hcm : max (n1).commit (min k.commit a1) = (n1).commit := by omega
                        rw [hcm] at hr
                        conv => whnf
                        refine ⟨⟨{ n1 with commit := (n1).commit }, .own, os, m, k.frm, ansM a1 true, none, 0⟩, ⟨by show os.length < 1000; omega, Cells.nil _ _⟩, ?_⟩
                        conv => whnf
                        repeat (first | exact trivial | (refine ⟨by first | exact ⟨rfl, rfl, rfl⟩ | rfl | exact ⟨rfl, rfl⟩ | exact ⟨rfl, fun _ _ => rfl⟩ | exact fun _ _ h => h | (intro _ _ h; cases h; done) | exact hL | exact ⟨hL, hR⟩ | exact hL.symm | exact ⟨hL.symm, hR.symm⟩, ?_⟩; conv => whnf))
                        rintro b rfl
                        have hsn : sayN { n1 with commit := (n1).commit } k.frm (ansM a1 true) = sayN n k.frm (ansM a1 true) := by unfold sayN; simp only [hk1, hk2]
                        refine ⟨⟨{ n1 with commit := (n1).commit }, (n1).log.items, os ++ [⟨sayN { n1 with commit := (n1).commit } k.frm (ansM a1 true), none, 0⟩]⟩, ⟨by rw [hr], ⟨Nat.le_refl _, List.take_length⟩, by rw [hr]; exact (Since.refl os).snoc hsn, hsaid.snoc (Cells.nil _ _)⟩, ?_⟩
                        conv => whnf
                        repeat (first | exact trivial | exact fun _ _ h => h | (refine ⟨by first | exact ⟨rfl, rfl, rfl⟩ | rfl | exact ⟨rfl, rfl⟩ | exact ⟨rfl, fun _ _ => rfl⟩ | exact fun _ _ h => h | (intro _ _ h; cases h; done) | exact hL | exact ⟨hL, hR⟩ | exact hL.symm | exact ⟨hL.symm, hR.symm⟩, ?_⟩; conv => whnf))
                        all_goals exact hext
                  · have hsm : ¬ (n1).log.items.length ≥ 256 := by have h2 : ¬ ((n1.log.items.length : Nat) : Int) ≥ 256 := of_decide_eq_false hsm; omega
                    rw [if_neg hsm] at hgo
                    have hfp : Fit (pushN (n1) x) := ⟨hft.s1, hft.s2, hft.m1, hft.m2, hft.b1, hft.b2, by show ((n1).log.items ++ [x]).length ≤ 300; rw [List.length_append]; show _ + 1 ≤ 300; omega, hft.c1, hft.c2⟩
                    have hlp : lastI (pushN (n1) x) = lastI (n1) + 1 := by show (n1).log.base + (((n1).log.items ++ [x]).length : Int) = (n1).log.base + ((n1).log.items.length : Int) + 1; rw [List.length_append]; show _ + ((_ + 1 : Nat) : Int) = _; omega
                    obtain ⟨hpl, hpr⟩ := push_row (x := x) hL hR
                    conv => whnf
                    refine Or.inr ⟨[0, 6], sc58_35, by kernel_rfl, ?_⟩
                    conv => whnf
                    repeat (first | exact trivial | (refine ⟨by first | exact ⟨rfl, rfl, rfl⟩ | rfl | exact ⟨rfl, rfl⟩ | exact ⟨rfl, fun _ _ => rfl⟩ | exact fun _ _ h => h | (intro _ _ h; cases h; done) | exact Nat.le_refl _ | exact ⟨Nat.le_refl _, by show (n1.log.items.length + 1) * 56 ≤ _; omega, by omega⟩, ?_⟩; conv => whnf))
                    refine ⟨⟨i9 + 1, pushN (n1) x, a1 + 1⟩, rfl, ⟨⟨hlt, hgo, hfp, by show n1.log.base ≤ a1 + 1; omega, by rw [hlp]; exact Int.add_le_add_right hal 1⟩, by show s - (i9 + 1) < s - i9; omega⟩, ?_⟩
                    conv => whnf
                    repeat (first | exact trivial | (refine ⟨by first | exact ⟨rfl, rfl, rfl⟩ | rfl | exact ⟨rfl, rfl⟩ | exact ⟨rfl, fun _ _ => rfl⟩ | exact fun _ _ h => h | (intro _ _ h; cases h; done) | exact wrapi_succ (by omega) | exact hwa | exact hpl | exact ⟨hpl, hpr⟩ | exact hpl.symm | exact ⟨hpl.symm, hpr.symm⟩, ?_⟩; conv => whnf))
                · have hkn : (termAtN n1.log (a1 + 1)).2 = true := by simpa using hkn
                  have hin := known_in hkn
                  rw [if_pos (by omega)] at hgo
                  refine ⟨⟨i9 + 1, n1, a1 + 1⟩, rfl, ⟨⟨hlt, hgo, hf1, by omega, by omega⟩, by show s - (i9 + 1) < s - i9; omega⟩, ?_⟩
                  conv => whnf
                  repeat (first | exact trivial | (refine ⟨by first | exact ⟨rfl, rfl, rfl⟩ | rfl | exact ⟨rfl, rfl⟩ | exact ⟨rfl, fun _ _ => rfl⟩ | exact fun _ _ h => h | (intro _ _ h; cases h; done) | exact wrapi_succ (by omega) | exact hwa, ?_⟩; conv => whnf))
            · have hge : i9 = s := by have h2 : ¬ (i9 : Int) < (s : Int) := of_decide_eq_false hge; omega
              rw [hge, hs, List.drop_length] at hgo
              have hgo : layGo n ((k.last)) (k.items) = ⟨n1, a1⟩ := hgo
              conv => whnf
              rw [hgo] at hlk
              have hk1 : (n1).me = n.me := hlk.1
              have hk2 : (n1).log.term = n.log.term := hlk.2.1
              have hr : appendR n k = ⟨{ n1 with commit := max (n1).commit (min k.commit a1) }, some (ansM a1 true)⟩ := by rw [happ]; unfold layR; rw [if_neg (by rw [hcl]; decide), hgo]
              refine ⟨fun h1 => ?_, fun h1 => ?_⟩
              · have h1 : a1 < k.commit := of_decide_eq_true h1
                conv => whnf
                refine ⟨fun h2 => ?_, fun h2 => ?_⟩
                · have h2 : a1 > (n1).commit := of_decide_eq_true h2
                  have hcm : max (n1).commit (min k.commit a1) = a1 := by omega
                  rw [hcm] at hr
                  conv => whnf
                  refine ⟨⟨{ n1 with commit := a1 }, .own, os, m, k.frm, ansM a1 true, none, 0⟩, ⟨by show os.length < 1000; omega, Cells.nil _ _⟩, ?_⟩
                  conv => whnf
                  repeat (first | exact trivial | (refine ⟨by first | exact ⟨rfl, rfl, rfl⟩ | rfl | exact ⟨rfl, rfl⟩ | exact ⟨rfl, fun _ _ => rfl⟩ | exact fun _ _ h => h | (intro _ _ h; cases h; done) | rfl, ?_⟩; conv => whnf))
                  rintro b rfl
                  have hsn : sayN { n1 with commit := a1 } k.frm (ansM a1 true) = sayN n k.frm (ansM a1 true) := by unfold sayN; simp only [hk1, hk2]
                  refine ⟨⟨{ n1 with commit := a1 }, (n1).log.items, os ++ [⟨sayN { n1 with commit := a1 } k.frm (ansM a1 true), none, 0⟩]⟩, ⟨by rw [hr], ⟨Nat.le_refl _, List.take_length⟩, by rw [hr]; exact (Since.refl os).snoc hsn, hsaid.snoc (Cells.nil _ _)⟩, ?_⟩
                  conv => whnf
                  repeat (first | exact trivial | exact fun _ _ h => h | (refine ⟨by first | exact ⟨rfl, rfl, rfl⟩ | rfl | exact ⟨rfl, rfl⟩ | exact ⟨rfl, fun _ _ => rfl⟩ | exact fun _ _ h => h | (intro _ _ h; cases h; done) | rfl, ?_⟩; conv => whnf))
                  all_goals exact hext
                · have h2 : ¬ a1 > (n1).commit := of_decide_eq_false h2
                  have hcm : max (n1).commit (min k.commit a1) = (n1).commit := by omega
                  rw [hcm] at hr
                  conv => whnf
                  refine ⟨⟨{ n1 with commit := (n1).commit }, .own, os, m, k.frm, ansM a1 true, none, 0⟩, ⟨by show os.length < 1000; omega, Cells.nil _ _⟩, ?_⟩
                  conv => whnf
                  repeat (first | exact trivial | (refine ⟨by first | exact ⟨rfl, rfl, rfl⟩ | rfl | exact ⟨rfl, rfl⟩ | exact ⟨rfl, fun _ _ => rfl⟩ | exact fun _ _ h => h | (intro _ _ h; cases h; done) | rfl, ?_⟩; conv => whnf))
                  rintro b rfl
                  have hsn : sayN { n1 with commit := (n1).commit } k.frm (ansM a1 true) = sayN n k.frm (ansM a1 true) := by unfold sayN; simp only [hk1, hk2]
                  refine ⟨⟨{ n1 with commit := (n1).commit }, (n1).log.items, os ++ [⟨sayN { n1 with commit := (n1).commit } k.frm (ansM a1 true), none, 0⟩]⟩, ⟨by rw [hr], ⟨Nat.le_refl _, List.take_length⟩, by rw [hr]; exact (Since.refl os).snoc hsn, hsaid.snoc (Cells.nil _ _)⟩, ?_⟩
                  conv => whnf
                  repeat (first | exact trivial | exact fun _ _ h => h | (refine ⟨by first | exact ⟨rfl, rfl, rfl⟩ | rfl | exact ⟨rfl, rfl⟩ | exact ⟨rfl, fun _ _ => rfl⟩ | exact fun _ _ h => h | (intro _ _ h; cases h; done) | rfl, ?_⟩; conv => whnf))
                  all_goals exact hext
              · have h1 : ¬ a1 < k.commit := of_decide_eq_false h1
                conv => whnf
                refine ⟨fun h2 => ?_, fun h2 => ?_⟩
                · have h2 : k.commit > (n1).commit := of_decide_eq_true h2
                  have hcm : max (n1).commit (min k.commit a1) = k.commit := by omega
                  rw [hcm] at hr
                  conv => whnf
                  refine ⟨⟨{ n1 with commit := k.commit }, .own, os, m, k.frm, ansM a1 true, none, 0⟩, ⟨by show os.length < 1000; omega, Cells.nil _ _⟩, ?_⟩
                  conv => whnf
                  repeat (first | exact trivial | (refine ⟨by first | exact ⟨rfl, rfl, rfl⟩ | rfl | exact ⟨rfl, rfl⟩ | exact ⟨rfl, fun _ _ => rfl⟩ | exact fun _ _ h => h | (intro _ _ h; cases h; done) | rfl, ?_⟩; conv => whnf))
                  rintro b rfl
                  have hsn : sayN { n1 with commit := k.commit } k.frm (ansM a1 true) = sayN n k.frm (ansM a1 true) := by unfold sayN; simp only [hk1, hk2]
                  refine ⟨⟨{ n1 with commit := k.commit }, (n1).log.items, os ++ [⟨sayN { n1 with commit := k.commit } k.frm (ansM a1 true), none, 0⟩]⟩, ⟨by rw [hr], ⟨Nat.le_refl _, List.take_length⟩, by rw [hr]; exact (Since.refl os).snoc hsn, hsaid.snoc (Cells.nil _ _)⟩, ?_⟩
                  conv => whnf
                  repeat (first | exact trivial | exact fun _ _ h => h | (refine ⟨by first | exact ⟨rfl, rfl, rfl⟩ | rfl | exact ⟨rfl, rfl⟩ | exact ⟨rfl, fun _ _ => rfl⟩ | exact fun _ _ h => h | (intro _ _ h; cases h; done) | rfl, ?_⟩; conv => whnf))
                  all_goals exact hext
                · have h2 : ¬ k.commit > (n1).commit := of_decide_eq_false h2
                  have hcm : max (n1).commit (min k.commit a1) = (n1).commit := by omega
                  rw [hcm] at hr
                  conv => whnf
                  refine ⟨⟨{ n1 with commit := (n1).commit }, .own, os, m, k.frm, ansM a1 true, none, 0⟩, ⟨by show os.length < 1000; omega, Cells.nil _ _⟩, ?_⟩
                  conv => whnf
                  repeat (first | exact trivial | (refine ⟨by first | exact ⟨rfl, rfl, rfl⟩ | rfl | exact ⟨rfl, rfl⟩ | exact ⟨rfl, fun _ _ => rfl⟩ | exact fun _ _ h => h | (intro _ _ h; cases h; done) | rfl, ?_⟩; conv => whnf))
                  rintro b rfl
                  have hsn : sayN { n1 with commit := (n1).commit } k.frm (ansM a1 true) = sayN n k.frm (ansM a1 true) := by unfold sayN; simp only [hk1, hk2]
                  refine ⟨⟨{ n1 with commit := (n1).commit }, (n1).log.items, os ++ [⟨sayN { n1 with commit := (n1).commit } k.frm (ansM a1 true), none, 0⟩]⟩, ⟨by rw [hr], ⟨Nat.le_refl _, List.take_length⟩, by rw [hr]; exact (Since.refl os).snoc hsn, hsaid.snoc (Cells.nil _ _)⟩, ?_⟩
                  conv => whnf
                  repeat (first | exact trivial | exact fun _ _ h => h | (refine ⟨by first | exact ⟨rfl, rfl, rfl⟩ | rfl | exact ⟨rfl, rfl⟩ | exact ⟨rfl, fun _ _ => rfl⟩ | exact fun _ _ h => h | (intro _ _ h; cases h; done) | rfl, ?_⟩; conv => whnf))
                  all_goals exact hext
end Go.Proofs.Ytjpjiniclibgkaa.Sx

namespace Go.Proofs.Ytjpjiniclibgkaa.Sx
open Go

theorem chain_le : ∀ {xs : List Item} {w : Int} {a : Nat} {x : Item}, chainB w xs = true → xs[a]? = some x → w ≤ x.term ∧ x.term ≤ endT w xs
  | [], _, _, _, _, h => by cases h
  | y :: r, w, a, x, hc, h => by
    simp only [chainB, Bool.and_eq_true, Bool.not_eq_true', Bool.or_eq_false_iff, decide_eq_false_iff_not] at hc
    have hend : y.term ≤ endT y.term r := by
      have : ∀ (r : List Item) (w : Int), chainB w r = true → w ≤ endT w r := by
        intro r
        induction r with
        | nil => intro w _; exact Int.le_refl _
        | cons y r ih =>
          intro w h
          simp only [chainB, Bool.and_eq_true, Bool.not_eq_true', Bool.or_eq_false_iff, decide_eq_false_iff_not] at h
          have := ih y.term h.2
          simp only [endT]
          omega
      exact this r _ hc.2
    cases a with
    | zero => cases h; exact ⟨by omega, hend⟩
    | succ a =>
      have ih := chain_le (a := a) hc.2 h
      exact ⟨by omega, ih.2⟩
theorem chain_two : ∀ {xs : List Item} {w : Int} {a b : Nat} {x y : Item}, chainB w xs = true → xs[a]? = some x → xs[b]? = some y → a ≤ b → x.term ≤ y.term
  | [], _, _, _, _, _, _, h, _, _ => by cases h
  | z :: r, w, a, b, x, y, hc, hx, hy, hab => by
    simp only [chainB, Bool.and_eq_true] at hc
    cases a with
    | zero =>
      cases hx
      cases b with
      | zero => cases hy; exact Int.le_refl _
      | succ b => exact (chain_le (a := b) hc.2 hy).1
    | succ a =>
      cases b with
      | zero => omega
      | succ b => exact chain_two (a := a) (b := b) hc.2 hx hy (by omega)
/-- The terms of a log's entries don't fall, and aren't above the log's own. -/
def Rising (l : Log) : Prop := chainB l.baseTerm l.items = true ∧ endT l.baseTerm l.items ≤ l.term
theorem term_at {l : Log} {i : Int} {x : Item} (h1 : l.base < i) (hx : l.items[(i - l.base - 1).toNat]? = some x) : termAtN l i = (x.term, true) := by
  have := (List.getElem?_eq_some_iff.1 hx).1
  exact termAtN_in (by omega) h1 (by omega) hx
theorem mono_of {n : Node} (hf : Fit n) (h : Rising n.log) (hc : n.log.base ≤ n.commit) : Mono n := by
  intro i j hi hij hj he
  rw [last_fit hf] at hj
  obtain ⟨x, hx⟩ := getIx (xs := n.log.items) (i := (i - n.log.base - 1).toNat) (by omega)
  obtain ⟨y, hy⟩ := getIx (xs := n.log.items) (i := (j - n.log.base - 1).toNat) (by omega)
  rw [term_at (by omega) hx] at he
  rw [term_at (by omega) hy]
  have h1 := chain_two h.1 hx hy (by omega)
  have h2 := (chain_le h.1 hy).2
  have h3 := h.2
  show y.term = _
  have he : x.term = n.log.term := he
  omega
theorem rising_snoc {l : Log} {x : Item} (h : Rising l) (hx : x.term = l.term) (hv : validB x.e = true) : Rising { l with items := l.items ++ [x] } := by
  refine ⟨?_, ?_⟩
  · show chainB l.baseTerm (l.items ++ [x]) = true
    rw [chain_snoc, h.1, hv]
    have : ¬ x.term < endT l.baseTerm l.items := by have := h.2; omega
    simp [this]
  · show endT l.baseTerm (l.items ++ [x]) ≤ l.term
    rw [last_snoc]; omega
/-- What is known of a node that can be. -/
structure Fine (n : Node) : Prop where
  s1 : 1 ≤ n.size
  s2 : n.size ≤ 7
  m1 : 0 ≤ n.me
  m2 : n.me < n.size
  t1 : 0 ≤ n.log.term
  t2 : n.log.term ≤ 1099511627776
  v1 : -1 ≤ n.log.vote
  v2 : n.log.vote < n.size
  b1 : 0 ≤ n.log.base
  b2 : n.log.base ≤ 1099511627776
  bt : 0 ≤ n.log.baseTerm
  l : n.log.items.length ≤ 256
  ris : Rising n.log
  r1 : 0 ≤ n.role
  r2 : n.role ≤ 2
  d1 : -1 ≤ n.lead
  d2 : n.lead < n.size
  c1 : n.log.base ≤ n.commit
  c2 : n.commit ≤ lastI n
  w1 : 0 ≤ n.votes
  w2 : n.votes < 2 ^ n.size.toNat
  rg : Range n
theorem fine_iff {n : Node} : goodB n = true ↔ Fine n := by
  constructor
  · intro h
    unfold goodB at h
    simp only [Bool.and_eq_true, Bool.not_eq_true', Bool.or_eq_false_iff] at h
    obtain ⟨⟨h1, h2⟩, h3, h4⟩ := h
    obtain ⟨s1, s2, m1, m2⟩ := size_of h1
    have hg : goodLogB n.log n.size = true := by simpa using h2
    obtain ⟨l1, l2, l3, l4⟩ := last_of hg
    have hli : lastI n = n.log.base + n.log.items.length := rfl
    rw [l2, ← hli] at h3 h4
    unfold goodLogB badB at hg
    simp only [Bool.and_eq_true, Bool.not_eq_true', Bool.or_eq_false_iff, decide_eq_false_iff_not, decide_eq_true_eq] at hg
    obtain ⟨⟨⟨⟨⟨⟨⟨⟨⟨g1, g2⟩, g3⟩, g4⟩, g5⟩, g6⟩, g7⟩, g8⟩, g9⟩, g10⟩ := hg
    unfold bad2 at h3
    simp only [Bool.or_eq_false_iff, decide_eq_false_iff_not] at h3
    obtain ⟨⟨⟨⟨⟨⟨⟨e1, e2⟩, e3⟩, e4⟩, e5⟩, e6⟩, e7⟩, e8⟩ := h3
    have hr : ∀ i : Nat, (i : Int) < n.size → rowBad n (lastI n) i = false := fun i hi => by
      have := List.all_eq_true.1 h4 i (List.mem_range.2 (by omega))
      simpa using this
    have hrr : ∀ i : Nat, (i : Int) < n.size → (0 ≤ n.next i ∧ n.next i ≤ lastI n + 1) ∧ (0 ≤ n.mat i ∧ n.mat i ≤ lastI n) := fun i hi => by
      have := hr i hi
      unfold rowBad at this
      simp only [Bool.or_eq_false_iff, decide_eq_false_iff_not] at this
      omega
    exact ⟨s1, s2, m1, m2, by omega, by omega, by omega, by omega, by omega, by omega, by omega, by omega, ⟨g9, g10⟩, by omega, by omega, by omega, by omega, by omega, by omega, by omega, by omega, ⟨fun i hi => (hrr i hi).1, fun i hi => (hrr i hi).2⟩⟩
  · intro h
    have h1 : bad1 n = false := by
      unfold bad1
      simp only [Bool.or_eq_false_iff, decide_eq_false_iff_not]
      have := h.s1; have := h.s2; have := h.m1; have := h.m2
      omega
    have hg : goodLogB n.log n.size = true := by
      unfold goodLogB badB
      simp only [Bool.and_eq_true, Bool.not_eq_true', Bool.or_eq_false_iff, decide_eq_false_iff_not, decide_eq_true_eq]
      have := h.t1; have := h.t2; have := h.v1; have := h.v2; have := h.b1; have := h.b2; have := h.bt; have := h.l
      exact ⟨⟨⟨⟨⟨⟨⟨⟨⟨by omega, by omega⟩, by omega⟩, by omega⟩, by omega⟩, by omega⟩, by omega⟩, by omega⟩, h.ris.1⟩, h.ris.2⟩
    obtain ⟨l1, l2, l3, l4⟩ := last_of hg
    have hli : lastI n = n.log.base + n.log.items.length := rfl
    unfold goodB
    rw [h1, hg, l2, ← hli]
    have h2 : bad2 n (lastI n) = false := by
      unfold bad2
      simp only [Bool.or_eq_false_iff, decide_eq_false_iff_not]
      have := h.r1; have := h.r2; have := h.d1; have := h.d2; have := h.c1; have := h.c2; have := h.w1; have := h.w2
      exact ⟨⟨⟨⟨⟨⟨⟨by omega, by omega⟩, by omega⟩, by omega⟩, by omega⟩, by omega⟩, by omega⟩, by omega⟩
    rw [h2]
    have h3 : ((List.range n.size.toNat).all fun i => !(rowBad n (lastI n) i)) = true := by
      rw [List.all_eq_true]
      intro i hi
      have hi := List.mem_range.1 hi
      obtain ⟨a1, a2⟩ := h.rg.nx i (by omega)
      obtain ⟨a3, a4⟩ := h.rg.mt i (by omega)
      have : rowBad n (lastI n) i = false := by
        unfold rowBad
        simp only [Bool.or_eq_false_iff, decide_eq_false_iff_not]
        omega
      rw [this]; rfl
    rw [h3]; rfl
theorem Fine.fit {n : Node} (h : Fine n) : Fit n := by
  have := h.b2; have := h.l; have := h.c1; have := h.c2; have := h.b1
  have hli : lastI n = n.log.base + n.log.items.length := rfl
  exact ⟨h.s1, h.s2, h.m1, h.m2, h.b1, by omega, by omega, by omega, by omega⟩
/-- What is known of a message that can be one to a node. -/
structure Heard (n : Node) (k : Msg) : Prop where
  to : k.to = n.me
  f1 : 0 ≤ k.frm
  f2 : k.frm < n.size
  f3 : k.frm ≠ n.me
  k1 : 1 ≤ k.kind
  k2 : k.kind ≤ 5
  t1 : 0 ≤ k.term
  t2 : k.term ≤ 1099511627776
  a1 : 0 ≤ k.last
  a2 : k.last ≤ 1099511627776
  b1 : 0 ≤ k.lastTerm
  b2 : k.lastTerm ≤ k.term
  c1 : 0 ≤ k.commit
  c2 : k.commit ≤ 1099511627776
  l : k.items.length ≤ 16
  up : chainB k.lastTerm k.items = true ∧ endT k.lastTerm k.items ≤ k.term
theorem heard_iff {n : Node} {k : Msg} : soundB n k = true ↔ Heard n k := by
  unfold soundB badM
  rw [Bool.and_eq_true]
  simp only [Bool.not_eq_true', Bool.or_eq_false_iff, decide_eq_false_iff_not, bne_eq_false_iff_eq, beq_eq_false_iff_ne, ne_eq]
  constructor
  · rintro ⟨⟨⟨⟨⟨⟨⟨⟨⟨⟨⟨⟨⟨⟨⟨h1, h2⟩, h3⟩, h4⟩, h5⟩, h6⟩, h7⟩, h8⟩, h9⟩, h10⟩, h11⟩, h12⟩, h13⟩, h14⟩, h15⟩, hu⟩
    rw [up_chain _ _ _ (by omega)] at hu
    exact ⟨h1, by omega, by omega, h4, by omega, by omega, by omega, by omega, by omega, by omega, by omega, by omega, by omega, by omega, by omega, by simpa using hu⟩
  · intro h
    have := h.f1; have := h.f2; have := h.k1; have := h.k2; have := h.t1; have := h.t2; have := h.a1; have := h.a2; have := h.b1; have := h.b2; have := h.c1; have := h.c2; have := h.l
    refine ⟨⟨⟨⟨⟨⟨⟨⟨⟨⟨⟨⟨⟨⟨⟨h.to, by omega⟩, by omega⟩, h.f3⟩, by omega⟩, by omega⟩, by omega⟩, by omega⟩, by omega⟩, by omega⟩, by omega⟩, by omega⟩, by omega⟩, by omega⟩, by omega⟩, ?_⟩
    rw [up_chain _ _ _ (by omega)]
    simpa using h.up
end Go.Proofs.Ytjpjiniclibgkaa.Sx
