/- The world of nodes: who leads, walked. Then: The moves of a statement's arguments, opened. RaftSafe, walked. The law RaftSafe holds of the program for every input: ONE LOG: from empty logs, whatever is lost, doubled, delayed and reordered, whoever times out, is begun anew or compacts, at whatever times: in each term at most one node leads; what one node has as committed no other has otherwise; each leader has all that was committed in earlier terms. Condition: none. -/
import Derived.Test.YtjpjiniclibgkaaSafeJ
import Derived.Test.YtjpjiniclibgkaaSafeG
namespace Go.Proofs.Ytjpjiniclibgkaa.Sx
open Go Safe

def leadsSpec : Spec where
  A := ComG
  R := fun ⟨y, m, sz, g, Fs⟩ => InM m y ∧ Looked sz g Fs y.ns ∧ Seen sz g y.su y.si ∧ y.su.length ≤ 1000 ∧ Led g y.ts y.ls ∧ y.ts.length ≤ 10000
  J := fun ⟨_, m, _, _, _⟩ => m
  args := fun _ => [.p 0 0]
  h := fun ⟨y, _, _, _, _⟩ => worldH 1 2 3 4 5 6 y
  nx := 7
  Bb := List Int × List Int
  C := fun ⟨y, _, _, g, _⟩ ⟨ts, ls⟩ => Led g ts ls ∧ ts.length ≤ y.ts.length + y.ns.length
  out := fun _ _ => .ret (.b true)
  h2 := fun ⟨y, _, _, _, _⟩ ⟨ts, ls⟩ => worldH 7 8 9 10 11 12 { y with ts := ts, ls := ls }
  nx2 := 13
theorem int_at {xs : List Int} {i : Nat} {t : Int} (h : xs[i]? = some t) : i * 1 + 1 ≤ (intsV xs).length ∧ [Value.int .i64 t] = ((intsV xs).drop (i * 1)).take 1 := by
  have hi := (List.getElem?_eq_some_iff.1 h).1
  refine ⟨by rw [intsV_len]; omega, ?_⟩
  have hd : xs.drop i = t :: xs.drop (i + 1) := by
    rw [List.drop_eq_getElem_cons hi, (List.getElem?_eq_some_iff.1 h).2]
  unfold intsV
  rw [Nat.mul_one, ← List.map_drop, hd]
  rfl
theorem getInt {xs : List Int} {i : Nat} (h : i < xs.length) : ∃ t, xs[i]? = some t := ⟨_, List.getElem?_eq_getElem h⟩
set_option maxRecDepth 100000 in
set_option maxHeartbeats 40000000 in
theorem leads_ok : SpecOk Try.prog 43 leadsSpec := by
  refine spec_of_exec (fn := Try.f43) (c := Try.f43.body.getD .skip) (d := 2) (lv := ([0, 2, 3, 4, 5, 6, 7, 8, 10, 11, 12, 13, 17, 18, 19, 20, 26, 30, 31, 32, 33, 41, 50, 53, 85, 86, 87, 88, 102, 122])) (DP := DPy T1 (CPs S29) ([0, 2, 3, 4, 5, 6, 7, 8, 10, 11, 12, 13, 17, 18, 19, 20, 26, 30, 31, 32, 33, 41, 50, 53, 85, 86, 87, 88, 102, 122])) T1_ok S29_ok (fun B => DPy_ok T1_ok ord S29_ok B) leadsSpec (by rfl) (by rfl) (by rfl) (fun _ => Nat.le_of_ble_eq_true (by kernel_rfl)) ?_
  rintro ⟨⟨ns, us, ts0, ls0, su, si, ct⟩, m, sz, g, Fs⟩ ⟨hI, hL, hS, hsl, hLd0, htl0⟩
  have hlen : ns.length = sz := hL.len
  have htl0 : ts0.length ≤ 10000 := htl0
  have hS : Seen sz g su si := hS
  have hsl : su.length ≤ 1000 := hsl
  have hL : Looked sz g Fs ns := hL
  conv => whnf
  refine ⟨Nat × List Int × List Int, fun ⟨v, ts, ls⟩ => v ≤ ns.length ∧ Led g ts ls ∧ ts.length ≤ ts0.length + v, fun ⟨v, ts, ls⟩ => ⟨125, [⟨0, [], .p 0 0⟩, ⟨17, [], .rw 1 ns.length⟩, ⟨18, [], .i .i64 ns.length⟩, ⟨19, [], .i .i64 v⟩], [], worldH 1 2 7 8 5 6 ⟨ns, us, ts, ls, su, si, ct⟩, 9⟩, fun _ => m, fun x => ns.length - x.1, ⟨(0, ts0, ls0), rfl, ⟨Nat.zero_le _, hLd0, Nat.le_refl _⟩, ?_⟩, ?_⟩
  conv => whnf
  · conv => whnf
    repeat (first | exact trivial | (refine ⟨by first | exact ⟨rfl, rfl, rfl⟩ | rfl | exact ⟨rfl, rfl⟩ | exact ⟨rfl, fun _ _ => rfl⟩ | exact fun _ _ h => h | (intro _ _ h; cases h; done), ?_⟩; conv => whnf))
  rintro ⟨v, ts, ls⟩ ⟨hv, hLd, htl⟩
  refine ⟨fun hlt => ?_, fun hge => ?_⟩
  conv => whnf
  · have hlt : v < ns.length := by have h2 : (v : Int) < (ns.length : Int) := of_decide_eq_true hlt; omega
    have hE := getNP hlt
    refine Exists.elim hE fun z hz => ?_
    have hzm := hI.n z (List.mem_of_getElem? hz)
    have hh := hL.here v z hz
    have hf := hh.fine
    have hsz7 : ns.length ≤ 7 := by have := hf.s2; have := hh.size; omega
    have hb1 := hf.b1
    have hlF := hh.link.last
    have hlN := hh.link.lastN hf
    have hF := hL.lenF v (by omega)
    refine ⟨⟨Int.natCast_nonneg _, by show (v : Int) < (ns.length : Int); omega, Nat.le_refl _⟩, ?_⟩
    conv => whnf
    refine ⟨.g (nodeC z.n (.sl z.A z.n.log.items.length z.c)), ⟨rfl, rfl, rfl, np_le hz, np_at hz⟩, ?_⟩
    conv => whnf
    refine ⟨fun hrole => ?_, fun hrole => ?_⟩
    · conv => whnf
      refine ⟨(v + 1, ts, ls), rfl, ⟨⟨hlt, hLd, by show ts.length ≤ ts0.length + (v + 1); omega⟩, by show ns.length - (v + 1) < ns.length - v; omega⟩, ?_⟩
      conv => whnf
      repeat (first | exact trivial | (refine ⟨by first | exact ⟨rfl, rfl, rfl⟩ | rfl | exact ⟨rfl, rfl⟩ | exact ⟨rfl, fun _ _ => rfl⟩ | exact fun _ _ h => h | (intro _ _ h; cases h; done) | exact wrapi_succ (by omega), ?_⟩; conv => whnf))
    · have hrole : z.n.role = 2 := by simpa using hrole
      have hld := (hh.lead hrole).1
      have htsl : ts.length ≤ 10007 := by omega
      conv => whnf
      refine ⟨Nat × Bool, fun ⟨k, _⟩ => k ≤ ts.length, fun ⟨k, kn⟩ => ⟨125, [⟨0, [], .p 0 0⟩, ⟨3, [], .i .i64 v⟩, ⟨4, [], .p 9 0⟩, ⟨5, [], .b kn⟩, ⟨17, [], .rw 1 ns.length⟩, ⟨18, [], .i .i64 ns.length⟩, ⟨19, [], .i .i64 v⟩, ⟨30, [], .rw 7 ts.length⟩, ⟨31, [], .i .i64 ts.length⟩, ⟨32, [], .i .i64 k⟩], [], (9, .st 27 (nodeC z.n (.sl z.A z.n.log.items.length z.c))) :: worldH 1 2 7 8 5 6 ⟨ns, us, ts, ls, su, si, ct⟩, 10⟩, fun _ => m, fun x => ts.length - x.1, ⟨(0, false), rfl, Nat.zero_le _, ?_⟩, ?_⟩
      conv => whnf
      · conv => whnf
        repeat (first | exact trivial | (refine ⟨by first | exact ⟨rfl, rfl, rfl⟩ | rfl | exact ⟨rfl, rfl⟩ | exact ⟨rfl, fun _ _ => rfl⟩ | exact fun _ _ h => h | (intro _ _ h; cases h; done), ?_⟩; conv => whnf))
      rintro ⟨k, kn⟩ hk
      have hk : k ≤ ts.length := hk
      refine ⟨fun hlt2 => ?_, fun hge2 => ?_⟩
      conv => whnf
      · have hlt2 : k < ts.length := by have h2 : (k : Int) < (ts.length : Int) := of_decide_eq_true hlt2; omega
        have hE := getInt hlt2
        refine Exists.elim hE fun t ht => ?_
        have hsame := hLd.same (v := v) ht
        refine ⟨⟨Int.natCast_nonneg _, by show (k : Int) < (ts.length : Int); omega, Nat.le_refl _⟩, ?_⟩
        conv => whnf
        refine ⟨.i .i64 t, ⟨rfl, rfl, rfl, (int_at ht).1, (int_at ht).2⟩, ?_⟩
        conv => whnf
        refine ⟨fun heq => ?_, fun hne => ?_⟩
        · have heq : t = z.n.log.term := eq_of_beq heq
          have hlk := hsame (by rw [heq]; exact hld)
          have hkl := hLd.1
          conv => whnf
          refine ⟨⟨Int.natCast_nonneg _, by show (k : Int) < (ls.length : Int); omega, Nat.le_refl _⟩, ?_⟩
          conv => whnf
          refine ⟨.i .i64 (v : Int), ⟨rfl, rfl, rfl, (int_at hlk).1, (int_at hlk).2⟩, ?_⟩
          conv => whnf
          refine ⟨fun h => absurd h (by simp), fun _ => ?_⟩
          conv => whnf
          refine ⟨(k + 1, true), rfl, ⟨hlt2, by show ts.length - (k + 1) < ts.length - k; omega⟩, ?_⟩
          conv => whnf
          repeat (first | exact trivial | (refine ⟨by first | exact ⟨rfl, rfl, rfl⟩ | rfl | exact ⟨rfl, rfl⟩ | exact ⟨rfl, fun _ _ => rfl⟩ | exact fun _ _ h => h | (intro _ _ h; cases h; done) | exact wrapi_succ (by omega), ?_⟩; conv => whnf))
        · conv => whnf
          refine ⟨(k + 1, kn), rfl, ⟨hlt2, by show ts.length - (k + 1) < ts.length - k; omega⟩, ?_⟩
          conv => whnf
          repeat (first | exact trivial | (refine ⟨by first | exact ⟨rfl, rfl, rfl⟩ | rfl | exact ⟨rfl, rfl⟩ | exact ⟨rfl, fun _ _ => rfl⟩ | exact fun _ _ h => h | (intro _ _ h; cases h; done) | exact wrapi_succ (by omega), ?_⟩; conv => whnf))
      · have hlast : (lastN z.n.log).1 = ((Fs v).length : Int) := by rw [hlN]
        conv => whnf
        refine ⟨fun hkn => ?_, fun hkn => ?_⟩
        · conv => whnf
          refine Or.inl (Or.inr ⟨[0], sc43_15, by kernel_rfl, ?_⟩)
          conv => whnf
          repeat (first | exact trivial | (refine ⟨by first | exact ⟨rfl, rfl, rfl⟩ | rfl | exact ⟨rfl, rfl⟩ | exact ⟨rfl, fun _ _ => rfl⟩ | exact fun _ _ h => h | (intro _ _ h; cases h; done), ?_⟩; conv => whnf))
          refine ⟨Nat.le_refl 1, ?_⟩
          conv => whnf
          repeat (first | exact trivial | (refine ⟨by first | exact ⟨rfl, rfl, rfl⟩ | rfl | exact ⟨rfl, rfl⟩ | exact ⟨rfl, fun _ _ => rfl⟩ | exact fun _ _ h => h | (intro _ _ h; cases h; done), ?_⟩; conv => whnf))
          refine ⟨⟨Nat.le_refl _, by show (ts.length + 1) * 8 ≤ _; omega, by show ts.length + 1 ≤ _; omega⟩, ?_⟩
          conv => whnf
          have hkl := hLd.1
          refine ⟨Nat.le_refl 1, ?_⟩
          conv => whnf
          repeat (first | exact trivial | (refine ⟨by first | exact ⟨rfl, rfl, rfl⟩ | rfl | exact ⟨rfl, rfl⟩ | exact ⟨rfl, fun _ _ => rfl⟩ | exact fun _ _ h => h | (intro _ _ h; cases h; done), ?_⟩; conv => whnf))
          refine ⟨⟨Nat.le_refl _, by show (ls.length + 1) * 8 ≤ _; omega, by show ls.length + 1 ≤ _; omega⟩, ?_⟩
          conv => whnf
          have hpt := since_row (si := ts) (t := z.n.log.term)
          have hpl := since_row (si := ls) (t := (v : Int))
          have hl1 : (ts ++ [z.n.log.term]).length ≤ ts0.length + (v + 1) := by rw [← hpt.1]; omega
          refine ⟨⟨z.n.log, z.A, z.c, m⟩, ⟨hzm.1, Nat.lt_of_le_of_lt hf.l (by decide)⟩, ?_⟩
          conv => whnf
          repeat (first | exact trivial | (refine ⟨by first | exact ⟨rfl, rfl, rfl⟩ | rfl | exact ⟨rfl, rfl⟩ | exact ⟨rfl, fun _ _ => rfl⟩ | exact fun _ _ h => h | (intro _ _ h; cases h; done), ?_⟩; conv => whnf))
          intro _ _
          conv => whnf
          refine ⟨Nat, fun i => i ≤ su.length, fun i => ⟨125, [⟨0, [], .p 0 0⟩, ⟨4, [], .p 9 0⟩, ⟨8, [], .i .i64 (lastN z.n.log).1⟩, ⟨17, [], .rw 1 ns.length⟩, ⟨18, [], .i .i64 ns.length⟩, ⟨19, [], .i .i64 v⟩, ⟨85, [], .rw 5 su.length⟩, ⟨86, [], .i .i64 su.length⟩, ⟨87, [], .i .i64 i⟩], [], (9, .st 27 (nodeC z.n (.sl z.A z.n.log.items.length z.c))) :: worldH 1 2 7 8 5 6 ⟨ns, us, ts ++ [z.n.log.term], ls ++ [(v : Int)], su, si, ct⟩, 10⟩, fun _ => m, fun i => su.length - i, ⟨0, rfl, Nat.zero_le _, ?_⟩, ?_⟩
          conv => whnf
          · conv => whnf
            repeat (first | exact trivial | (refine ⟨by first | exact ⟨rfl, rfl, rfl⟩ | rfl | exact ⟨rfl, rfl⟩ | exact ⟨rfl, fun _ _ => rfl⟩ | exact fun _ _ h => h | (intro _ _ h; cases h; done) | exact hpt.1 | exact hpl.1 | exact hpt | exact hpl, ?_⟩; conv => whnf))
          intro i hi
          have hi : i ≤ su.length := hi
          refine ⟨fun hlt3 => ?_, fun hge3 => ?_⟩
          conv => whnf
          · have hlt3 : i < su.length := by have h2 : (i : Int) < (su.length : Int) := of_decide_eq_true hlt3; omega
            have hsil := hS.len
            have hE := show ∃ x, su[i]? = some x from ⟨_, List.getElem?_eq_getElem hlt3⟩
            refine Exists.elim hE fun x hx => ?_
            have hE := getInt (xs := si) (i := i) (by omega)
            refine Exists.elim hE fun s hs => ?_
            refine ⟨⟨Int.natCast_nonneg _, by show (i : Int) < (su.length : Int); omega, Nat.le_refl _⟩, ?_⟩
            conv => whnf
            refine ⟨.g (itemC x), ⟨rfl, rfl, rfl, row_le rfl hx, row_at rfl hx⟩, ?_⟩
            conv => whnf
            refine Or.inl (Or.inl ?_)
            conv => whnf
            refine ⟨by kernel_rfl, ?_⟩
            conv => whnf
            refine ⟨⟨Int.natCast_nonneg _, by show (i : Int) < (si.length : Int); omega, Nat.le_refl _⟩, ?_⟩
            conv => whnf
            refine ⟨.i .i64 s, ⟨rfl, rfl, rfl, (int_at hs).1, (int_at hs).2⟩, ?_⟩
            conv => whnf
            refine ⟨fun hge4 => ?_, fun hlt4 => ?_⟩
            · conv => whnf
              refine ⟨i + 1, rfl, ⟨hlt3, by show su.length - (i + 1) < su.length - i; omega⟩, ?_⟩
              conv => whnf
              repeat (first | exact trivial | (refine ⟨by first | exact ⟨rfl, rfl, rfl⟩ | rfl | exact ⟨rfl, rfl⟩ | exact ⟨rfl, fun _ _ => rfl⟩ | exact fun _ _ h => h | (intro _ _ h; cases h; done) | exact wrapi_succ (by omega), ?_⟩; conv => whnf))
            · have hlt4 : s < z.n.log.term := by have h2 : ¬ s ≥ z.n.log.term := of_decide_eq_false hlt4; omega
              have hlead := hS.leader hh hrole hs hlt4
              have hw6 : IntKind.i64.wrap ((i : Int) + 1) = (i : Int) + 1 := wrapi ⟨by omega, by omega⟩
              have hw7 : 0 ≤ IntKind.i64.wrap ((i : Int) + 1) ∧ IntKind.i64.wrap ((i : Int) + 1) ≤ 2 ^ 60 := by rw [hw6]; omega
              conv => whnf
              refine ⟨⟨z.n.log, z.A, z.c, IntKind.i64.wrap ((i : Int) + 1), m⟩, ⟨hzm.1, Nat.lt_of_le_of_lt hf.l (by decide), hw7, ⟨hb1, by show z.n.log.base ≤ _; have := hf.b2; omega⟩⟩, ?_⟩
              conv => whnf
              repeat (first | exact trivial | (refine ⟨by first | exact ⟨rfl, rfl, rfl⟩ | rfl | exact ⟨rfl, rfl⟩ | exact ⟨rfl, fun _ _ => rfl⟩ | exact fun _ _ h => h | (intro _ _ h; cases h; done), ?_⟩; conv => whnf))
              intro _ _
              have hno : decide (IntKind.i64.wrap ((i : Int) + 1) > (lastN z.n.log).1) = false := decide_eq_false (by rw [hw6, hlast]; have := hlead.1; omega)
              have hent : entB z.n.log (IntKind.i64.wrap ((i : Int) + 1)) = true → entI z.n.log (IntKind.i64.wrap ((i : Int) + 1)) = x := by
                rw [hw6]
                intro hb
                by_cases hbi : z.n.log.base.toNat ≤ i
                · have ht := hh.link.tells hb1 hbi hlead.1
                  have ht3 := ht.2.2.trans (hlead.2.symm.trans hx)
                  exact (ent_in ⟨ht.1, ht.2.1⟩ ht3).1
                · rw [(ent_out (by omega)).2] at hb
                  cases hb
              conv => whnf
              refine ⟨fun h => absurd h (by
                rw [hno]
                by_cases hb : entB z.n.log (IntKind.i64.wrap ((i : Int) + 1)) = true
                · rw [hent hb]; simp [yes]
                · simp [hb]), fun _ => ?_⟩
              conv => whnf
              refine ⟨i + 1, rfl, ⟨hlt3, by show su.length - (i + 1) < su.length - i; omega⟩, ?_⟩
              conv => whnf
              repeat (first | exact trivial | (refine ⟨by first | exact ⟨rfl, rfl, rfl⟩ | rfl | exact ⟨rfl, rfl⟩ | exact ⟨rfl, fun _ _ => rfl⟩ | exact fun _ _ h => h | (intro _ _ h; cases h; done) | exact wrapi_succ (by omega), ?_⟩; conv => whnf))
          · refine ⟨(v + 1, ts ++ [z.n.log.term], ls ++ [(v : Int)]), rfl, ⟨⟨hlt, hLd.push hld, hl1⟩, by show ns.length - (v + 1) < ns.length - v; omega⟩, ?_⟩
            conv => whnf
            repeat (first | exact trivial | (refine ⟨by first | exact ⟨rfl, rfl, rfl⟩ | rfl | exact ⟨rfl, rfl⟩ | exact ⟨rfl, fun _ _ => rfl⟩ | exact fun _ _ h => h | (intro _ _ h; cases h; done) | exact wrapi_succ (by omega), ?_⟩; conv => whnf))
        · have hl1 : ts.length ≤ ts0.length + (v + 1) := by omega
          conv => whnf
          refine ⟨⟨z.n.log, z.A, z.c, m⟩, ⟨hzm.1, Nat.lt_of_le_of_lt hf.l (by decide)⟩, ?_⟩
          conv => whnf
          repeat (first | exact trivial | (refine ⟨by first | exact ⟨rfl, rfl, rfl⟩ | rfl | exact ⟨rfl, rfl⟩ | exact ⟨rfl, fun _ _ => rfl⟩ | exact fun _ _ h => h | (intro _ _ h; cases h; done), ?_⟩; conv => whnf))
          intro _ _
          conv => whnf
          refine ⟨Nat, fun i => i ≤ su.length, fun i => ⟨125, [⟨0, [], .p 0 0⟩, ⟨4, [], .p 9 0⟩, ⟨8, [], .i .i64 (lastN z.n.log).1⟩, ⟨17, [], .rw 1 ns.length⟩, ⟨18, [], .i .i64 ns.length⟩, ⟨19, [], .i .i64 v⟩, ⟨85, [], .rw 5 su.length⟩, ⟨86, [], .i .i64 su.length⟩, ⟨87, [], .i .i64 i⟩], [], (9, .st 27 (nodeC z.n (.sl z.A z.n.log.items.length z.c))) :: worldH 1 2 7 8 5 6 ⟨ns, us, ts, ls, su, si, ct⟩, 10⟩, fun _ => m, fun i => su.length - i, ⟨0, rfl, Nat.zero_le _, ?_⟩, ?_⟩
          conv => whnf
          · conv => whnf
            repeat (first | exact trivial | (refine ⟨by first | exact ⟨rfl, rfl, rfl⟩ | rfl | exact ⟨rfl, rfl⟩ | exact ⟨rfl, fun _ _ => rfl⟩ | exact fun _ _ h => h | (intro _ _ h; cases h; done) | exact rfl, ?_⟩; conv => whnf))
          intro i hi
          have hi : i ≤ su.length := hi
          refine ⟨fun hlt3 => ?_, fun hge3 => ?_⟩
          conv => whnf
          · have hlt3 : i < su.length := by have h2 : (i : Int) < (su.length : Int) := of_decide_eq_true hlt3; omega
            have hsil := hS.len
            have hE := show ∃ x, su[i]? = some x from ⟨_, List.getElem?_eq_getElem hlt3⟩
            refine Exists.elim hE fun x hx => ?_
            have hE := getInt (xs := si) (i := i) (by omega)
            refine Exists.elim hE fun s hs => ?_
            refine ⟨⟨Int.natCast_nonneg _, by show (i : Int) < (su.length : Int); omega, Nat.le_refl _⟩, ?_⟩
            conv => whnf
            refine ⟨.g (itemC x), ⟨rfl, rfl, rfl, row_le rfl hx, row_at rfl hx⟩, ?_⟩
            conv => whnf
            refine Or.inl (Or.inl ?_)
            conv => whnf
            refine ⟨by kernel_rfl, ?_⟩
            conv => whnf
            refine ⟨⟨Int.natCast_nonneg _, by show (i : Int) < (si.length : Int); omega, Nat.le_refl _⟩, ?_⟩
            conv => whnf
            refine ⟨.i .i64 s, ⟨rfl, rfl, rfl, (int_at hs).1, (int_at hs).2⟩, ?_⟩
            conv => whnf
            refine ⟨fun hge4 => ?_, fun hlt4 => ?_⟩
            · conv => whnf
              refine ⟨i + 1, rfl, ⟨hlt3, by show su.length - (i + 1) < su.length - i; omega⟩, ?_⟩
              conv => whnf
              repeat (first | exact trivial | (refine ⟨by first | exact ⟨rfl, rfl, rfl⟩ | rfl | exact ⟨rfl, rfl⟩ | exact ⟨rfl, fun _ _ => rfl⟩ | exact fun _ _ h => h | (intro _ _ h; cases h; done) | exact wrapi_succ (by omega), ?_⟩; conv => whnf))
            · have hlt4 : s < z.n.log.term := by have h2 : ¬ s ≥ z.n.log.term := of_decide_eq_false hlt4; omega
              have hlead := hS.leader hh hrole hs hlt4
              have hw6 : IntKind.i64.wrap ((i : Int) + 1) = (i : Int) + 1 := wrapi ⟨by omega, by omega⟩
              have hw7 : 0 ≤ IntKind.i64.wrap ((i : Int) + 1) ∧ IntKind.i64.wrap ((i : Int) + 1) ≤ 2 ^ 60 := by rw [hw6]; omega
              conv => whnf
              refine ⟨⟨z.n.log, z.A, z.c, IntKind.i64.wrap ((i : Int) + 1), m⟩, ⟨hzm.1, Nat.lt_of_le_of_lt hf.l (by decide), hw7, ⟨hb1, by show z.n.log.base ≤ _; have := hf.b2; omega⟩⟩, ?_⟩
              conv => whnf
              repeat (first | exact trivial | (refine ⟨by first | exact ⟨rfl, rfl, rfl⟩ | rfl | exact ⟨rfl, rfl⟩ | exact ⟨rfl, fun _ _ => rfl⟩ | exact fun _ _ h => h | (intro _ _ h; cases h; done), ?_⟩; conv => whnf))
              intro _ _
              have hno : decide (IntKind.i64.wrap ((i : Int) + 1) > (lastN z.n.log).1) = false := decide_eq_false (by rw [hw6, hlast]; have := hlead.1; omega)
              have hent : entB z.n.log (IntKind.i64.wrap ((i : Int) + 1)) = true → entI z.n.log (IntKind.i64.wrap ((i : Int) + 1)) = x := by
                rw [hw6]
                intro hb
                by_cases hbi : z.n.log.base.toNat ≤ i
                · have ht := hh.link.tells hb1 hbi hlead.1
                  have ht3 := ht.2.2.trans (hlead.2.symm.trans hx)
                  exact (ent_in ⟨ht.1, ht.2.1⟩ ht3).1
                · rw [(ent_out (by omega)).2] at hb
                  cases hb
              conv => whnf
              refine ⟨fun h => absurd h (by
                rw [hno]
                by_cases hb : entB z.n.log (IntKind.i64.wrap ((i : Int) + 1)) = true
                · rw [hent hb]; simp [yes]
                · simp [hb]), fun _ => ?_⟩
              conv => whnf
              refine ⟨i + 1, rfl, ⟨hlt3, by show su.length - (i + 1) < su.length - i; omega⟩, ?_⟩
              conv => whnf
              repeat (first | exact trivial | (refine ⟨by first | exact ⟨rfl, rfl, rfl⟩ | rfl | exact ⟨rfl, rfl⟩ | exact ⟨rfl, fun _ _ => rfl⟩ | exact fun _ _ h => h | (intro _ _ h; cases h; done) | exact wrapi_succ (by omega), ?_⟩; conv => whnf))
          · refine ⟨(v + 1, ts, ls), rfl, ⟨⟨hlt, hLd, hl1⟩, by show ns.length - (v + 1) < ns.length - v; omega⟩, ?_⟩
            conv => whnf
            repeat (first | exact trivial | (refine ⟨by first | exact ⟨rfl, rfl, rfl⟩ | rfl | exact ⟨rfl, rfl⟩ | exact ⟨rfl, fun _ _ => rfl⟩ | exact fun _ _ h => h | (intro _ _ h; cases h; done) | exact wrapi_succ (by omega), ?_⟩; conv => whnf))
  · have hge : v = ns.length := by have h2 : ¬ (v : Int) < (ns.length : Int) := of_decide_eq_false hge; omega
    refine ⟨(ts, ls), ⟨hLd, by rw [← hge]; exact htl⟩, ?_⟩
    conv => whnf
    conv => whnf
    repeat (first | exact trivial | exact fun _ _ h => h | (refine ⟨by first | exact ⟨rfl, rfl, rfl⟩ | rfl | exact ⟨rfl, rfl⟩ | exact ⟨rfl, fun _ _ => rfl⟩ | exact fun _ _ h => h | (intro _ _ h; cases h; done), ?_⟩; conv => whnf))
end Go.Proofs.Ytjpjiniclibgkaa.Sx

namespace Go.Proofs.Ytjpjiniclibgkaa.Sx
open Go Go.ChangeShapes Go.WideShapes Go.RowKit

def moveV (x : MoveV) : List Value := [.int .i64 x.kind, .int .i64 x.who, .int .i64 x.i]
def movesV (xs : List MoveV) : List Value := xs.flatMap moveV
theorem movesV_len (xs : List MoveV) : (movesV xs).length = xs.length * 3 := by
  induction xs with
  | nil => rfl
  | cons x xs ih => show ((moveV x) ++ movesV xs).length = _; rw [List.length_append, ih, List.length_cons]; show 3 + _ = _; omega
theorem movesV_drop (xs : List MoveV) : ∀ k, (movesV xs).drop (k * 3) = movesV (xs.drop k) := by
  induction xs with
  | nil => intro k; simp [movesV]
  | cons x xs ih =>
    intro k
    match k with
    | 0 => rfl
    | k + 1 =>
      have e : (k + 1) * 3 = k * 3 + 3 := by omega
      rw [e]
      show (moveV x ++ movesV xs).drop (k * 3 + 3) = _
      rw [Nat.add_comm, ← List.drop_drop]
      exact ih k
theorem move_row {xs : List MoveV} {i : Nat} {x : MoveV} (h : xs[i]? = some x) : i * 3 + 3 ≤ (movesV xs).length ∧ ((movesV xs).drop (i * 3)).take 3 = moveV x := by
  have hi := (List.getElem?_eq_some_iff.1 h).1
  refine ⟨by rw [movesV_len]; omega, ?_⟩
  have hd : xs.drop i = x :: xs.drop (i + 1) := by
    rw [List.drop_eq_getElem_cons hi, (List.getElem?_eq_some_iff.1 h).2]
  rw [movesV_drop, hd]
  rfl
theorem movesV_get {xs : List MoveV} {i : Nat} {y : MoveV} (h : xs[i]? = some y) {o : Nat} (ho : o < 3) : (movesV xs)[i * 3 + o]? = (moveV y)[o]? := by
  have := congrArg (fun l => l[o]?) (move_row h).2
  simp only [List.getElem?_take, List.getElem?_drop, ho, if_true] at this
  exact this
theorem cells64 : Try.prog.cellsOf 64 = 1 := by kernel_rfl
theorem cells70 : Try.prog.cellsOf 70 = 3 := by kernel_rfl
theorem und64 : Try.prog.underlying 64 = some (.slice 70) := by kernel_rfl
theorem und70 : Try.prog.underlying 70 = some (.struct fs70) := by kernel_rfl
theorem bytes70 : Try.prog.bytesOf 70 = 24 := by kernel_rfl
section
variable {H : Type} {enc : TypeId × Value → H} {W : World} {fuel : Nat} {cs : List Value} {x : DataW H × List MemPlace}
theorem open_move (h : DataW.trod enc Try.prog W 0 (fun _ => true) true fuel 70 cs = some x) : ∃ y : MoveV, cs = moveV y := by
  obtain ⟨hl, n, ds, _, _, hf⟩ := field_of und70 h
  rw [cells70] at hl
  obtain ⟨_, h0, _⟩ := hf 0 _ 0 1 rfl rfl cells3
  obtain ⟨_, h1, _⟩ := hf 1 _ 1 1 rfl rfl cells3
  obtain ⟨_, h2, _⟩ := hf 2 _ 2 1 rfl rfl cells3
  obtain ⟨a, ha, _⟩ := int_of h0
  obtain ⟨b, hb, _⟩ := int_of h1
  obtain ⟨c, hc, _⟩ := int_of h2
  refine ⟨⟨a, b, c⟩, ?_⟩
  rw [show cs = cs.drop 0 from rfl, cut cs 0 1, ha, cut cs 1 1, hb, cut cs 2 1, hc, List.drop_eq_nil_of_le (by omega)]
  rfl
theorem open_moves (h : DataW.trod enc Try.prog W 0 (fun _ => true) true fuel 64 cs = some x) (hw : (x.1.weights Try.prog 64).all (· ≤ reachBytes) = true) :
    ∃ (A : Option Addr) (c : Nat) (xs : List MoveV), cs = [.slice A xs.length c] ∧ Cells (allMem W) A (movesV xs) ∧ xs.length ≤ c ∧ xs.length < 2 ^ 62 := by
  rcases Go.Deep.open_slice und64 h with ⟨hcs, _⟩ | ⟨a, len, cap, m, n, D, Pl, hcs, _, hl, hm, hmm, hx, hall⟩
  · exact ⟨none, 0, [], hcs, (fun j v hj => by cases hj), Nat.le_refl _, by decide⟩
  · simp only [if_true] at hmm
    subst hmm
    subst hx
    simp only [DataW.weights, und64, bytes70, List.all_cons, Bool.and_eq_true, decide_eq_true_eq, List.length_map, List.length_range] at hw
    have hb : len < 2 ^ 62 := by have := hw.1; unfold reachBytes at this; omega
    have each : ∀ i, ∃ y : MoveV, i < len → W.cells? 0 (a.add (i * 3)) 3 = some (moveV y) := by
      intro i
      by_cases hi : i < len
      · obtain ⟨cs', h1, h2⟩ := hall i (by omega)
        obtain ⟨y, rfl⟩ := open_move h2
        rw [cells70] at h1
        exact ⟨y, fun _ => h1⟩
      · exact ⟨⟨0, 0, 0⟩, fun h => absurd h hi⟩
    obtain ⟨f, hf⟩ := Classical.axiomOfChoice each
    have hlen : ((List.range len).map f).length = len := by simp
    refine ⟨some a, m, (List.range len).map f, by rw [hlen]; exact hcs, fun j v hj => ⟨a, rfl, ?_⟩, by rw [hlen]; exact hl, by rw [hlen]; exact hb⟩
    have hjl := (List.getElem?_eq_some_iff.1 hj).1
    rw [movesV_len, hlen] at hjl
    obtain ⟨i, o, hio, ho⟩ : ∃ i o, j = i * 3 + o ∧ o < 3 := ⟨j / 3, j % 3, by omega, by omega⟩
    have hi : i < len := by omega
    have hc := hf i hi
    have hcell := (World.cells?_some hc).2.2 o ho
    have hxi : ((List.range len).map f)[i]? = some (f i) := by rw [List.getElem?_map, List.getElem?_range hi]; rfl
    rw [hio, movesV_get hxi ho] at hj
    rw [add_add, ← hio, hj] at hcell
    exact mcell_all hcell (add_spot hcell)
theorem trod_one64 {v : Value} {d : DataW H} {ps : List MemPlace} {base : Nat} (hval : Value.okWide Try.prog W .any base 64 v) (h : DataW.Trod enc Try.prog W 0 (fun _ => true) true 64 v d ps) : ∃ fuel, DataW.trod enc Try.prog W 0 (fun _ => true) true fuel 64 [v] = some (d, ps) := by
  obtain ⟨a, l, c, rfl⟩ := okWide_slice und64 hval
  exact h
end
end Go.Proofs.Ytjpjiniclibgkaa.Sx

namespace Go.Proofs.Ytjpjiniclibgkaa.Sx
open Go Safe

def S30 : List (Nat × Spec) := (41, moveSpec) :: (42, comSpec) :: (43, leadsSpec) :: S29
theorem S30_all : ∀ f s, findS S30 f = some s → SpecOk Try.prog f s := CP_cons (CP_cons (CP_cons S29_all leads_ok) com_ok) move_ok
theorem S30_ok : CPOk Try.prog (CPs S30) := CPs_ok S30_all
theorem mem_move {m : Mem} {A : Option Addr} {xs : List MoveV} {i : Nat} {x : MoveV} (hM : Cells m A (movesV xs)) (h : xs[i]? = some x) : rdM m A (i * 3 + 0) 3 (dens η0 [.i .i64 x.kind, .i .i64 x.who, .i .i64 x.i]) := hM.rd rfl rfl (by decide) (by rw [Nat.add_zero, (move_row h).2]; rfl)
theorem Cells.someV {m : Mem} {A : Option Addr} {xs : List MoveV} {i : Nat} {x : MoveV} (hM : Cells m A (movesV xs)) (h : xs[i]? = some x) : A.isSome = true := by
  have hl := (List.getElem?_eq_some_iff.1 h).1
  obtain ⟨a, ha, _⟩ := hM 0 ((movesV xs)[0]'(by rw [movesV_len]; omega)) (List.getElem?_eq_getElem _)
  rw [ha]; rfl
structure SafeG where
  size : Int
  xs : List MoveV
  B : Option Addr
  c : Nat
  m : Mem
def lawSafeSpec : Spec where
  A := SafeG
  R := fun ⟨_, xs, B, c, m⟩ => Cells m B (movesV xs) ∧ xs.length ≤ c ∧ xs.length < 2 ^ 62
  J := fun ⟨_, _, _, _, m⟩ => m
  args := fun ⟨size, xs, B, c, _⟩ => [.i .i64 size, .sl B xs.length c]
  h := fun _ => []
  nx := 0
  Bb := Unit
  C := fun _ _ => True
  out := fun _ _ => .ret (.b true)
  h2 := fun _ _ => []
  nx2 := 0
theorem ors {a b c : Bool} : (if (if a = true then true else b) = true then true else c) = false → a = false ∧ b = false ∧ c = false := by cases a <;> cases b <;> cases c <;> simp
theorem ands {a b c : Bool} (h : ¬ (a = true ∧ b = true) → c = true) : (if (if a = true then b else false) = true then true else c) = true := by cases a <;> cases b <;> simp_all
/-- A node as it is at the beginning. -/
def newN (v sz : Int) : Node := ⟨v, sz, ⟨0, -1, 0, 0, ByteArray.empty, []⟩, 0, -1, 0, 0, fun _ => 0, fun _ => 0⟩
theorem newR_ok {v sz : Int} (h1 : 0 ≤ v) (h2 : v < sz) (h7 : sz ≤ 7) : newR v sz emptyL = ⟨newN v sz, [], 0⟩ := by
  have hb : newB v sz emptyL = true := by
    unfold newB goodLogB badB emptyL
    simp [chainB, endT]
    omega
  unfold newR
  rw [if_pos hb]
  rfl
theorem newR_bad {sz : Int} (h : ¬ (1 ≤ sz ∧ sz ≤ 7)) : (newR 0 sz emptyL).e = 1 := by
  have hb : ¬ newB 0 sz emptyL = true := fun hb => h (by
    unfold newB at hb
    simp only [Bool.not_eq_true', Bool.or_eq_false_iff, decide_eq_false_iff_not] at hb
    omega)
  unfold newR
  rw [if_neg hb]
/-- The nodes at the beginning, so far. -/
structure Newly (sz : Int) (ns : List NP) (m : Mem) (i : Nat) : Prop where
  len : ns.length = i
  n : ∀ (v : Nat) (z : NP), ns[v]? = some z → z.n = newN (v : Int) sz ∧ Cells m z.A (itemsV z.n.log.items) ∧ z.n.log.items.length ≤ z.c
theorem Newly.push {sz : Int} {ns : List NP} {m m8 : Mem} {i : Nat} (h : Newly sz ns m i) {n : Node} {A : Option Addr} {c : Nat} (hn : n = newN (i : Int) sz) (hc : Cells m8 A (itemsV n.log.items) ∧ n.log.items.length ≤ c) (hx : ∀ b o, m b = some o → m8 b = some o) : Newly sz (ns ++ [⟨n, A, c⟩]) m8 (i + 1) := by
  refine ⟨by rw [List.length_append, h.len]; rfl, fun v z hz => ?_⟩
  by_cases hv : v < ns.length
  · rw [List.getElem?_append_left hv] at hz
    obtain ⟨h1, h2, h3⟩ := h.n v z hz
    exact ⟨h1, h2.ext hx, h3⟩
  · rw [List.getElem?_append_right (by omega)] at hz
    have h1 := (List.getElem?_eq_some_iff.1 hz).1
    have e : [(⟨n, A, c⟩ : NP)].length = 1 := rfl
    have hv0 : v - ns.length = 0 := by omega
    rw [hv0] at hz
    cases hz
    have : v = i := by have := h.len; omega
    subst this
    exact ⟨hn, hc⟩
theorem nps_row {ys : List NP} {y : NP} : ys.length + 1 = (ys ++ [y]).length ∧ (npsV ys).take (ys.length * 26) ++ (dens η0 (nodeC y.n (.sl y.A y.n.log.items.length y.c))).take (1 * 26) = npsV (ys ++ [y]) := by
  refine ⟨by rw [List.length_append]; rfl, ?_⟩
  rw [List.take_of_length_le (by rw [npsV_len]; omega)]
  have e : npsV (ys ++ [y]) = npsV ys ++ npsV [y] := by simp [npsV]
  rw [e]
  have e2 : npsV [y] = npV y := by simp [npsV]
  rw [e2]
  rfl
structure SafeL where
  i : Nat
  ns : List NP
  m : Mem
structure SafeW where
  i : Nat
  y : Wld
  m : Mem
  g : Gh Item
  nf : Nat → Node
  Fs : Nat → List Item
structure Going (sz i : Nat) (g : Gh Item) (nf : Nat → Node) (Fs : Nat → List Item) (y : Wld) (m : Mem) : Prop where
  inv : Inv sz i y.su.length g nf Fs y.abs
  mem : InM m y
  com : ∀ n ∈ y.abs.ns, n.commit.toNat ≤ y.su.length
  sl : y.su.length ≤ 1000
  tl : y.ts.length ≤ 7 * i
theorem going_begin {sz : Nat} (h1 : 1 ≤ sz) (h7 : sz ≤ 7) {ns : List NP} {m : Mem} (hF : Newly (sz : Int) ns m sz) : ∃ g nf Fs, Going sz 0 g nf Fs ⟨ns, [], [], [], [], [], 0⟩ m := by
  obtain ⟨g, hw, hs⟩ := WI.begin h1 h7 (ns := fun v => newN (v : Int) (sz : Int)) fun _ _ => rfl
  have hsame : ∀ (v : Nat) (n : Node), (ns.map (·.n))[v]? = some n → newN (v : Int) (sz : Int) = n := fun v n h => by
    rw [List.getElem?_map] at h
    obtain ⟨z, hz, rfl⟩ := Option.map_eq_some_iff.1 h
    exact (hF.n v z hz).1.symm
  refine ⟨g, fun v => newN (v : Int) (sz : Int), fun _ => [], ⟨⟨?_, hsame, hw, hs, ⟨rfl, fun k t hk => by cases hk⟩, Nat.zero_le _⟩, ⟨fun z hz => ?_, fun o ho => by cases ho⟩, fun n hn => ?_, Nat.zero_le _, Nat.zero_le _⟩⟩
  · show (ns.map (·.n)).length = sz
    rw [List.length_map]; exact hF.len
  · obtain ⟨v, hv⟩ := List.getElem?_of_mem hz
    exact (hF.n v z hv).2
  · obtain ⟨v, hv⟩ := List.getElem?_of_mem hn
    have := hsame v n hv
    rw [← this]
    exact Nat.le_refl _
theorem turnW_keep (w : WA) (v : Nat) (r : StepR) : (turnW w v r).su = w.su ∧ (turnW w v r).ts = w.ts := by
  unfold turnW; split <;> exact ⟨rfl, rfl⟩
theorem lessW_keep (w : WA) (x : MoveV) : (lessW w x).su = w.su ∧ (lessW w x).ts = w.ts := ⟨lessW_same.2.2.2.1, lessW_same.2.1⟩
theorem moveW_keep (w : WA) (x : MoveV) : (moveW w x).su = w.su ∧ (moveW w x).ts = w.ts := by
  unfold moveW
  split
  · split
    · exact ⟨rfl, rfl⟩
    · split
      · unfold hearW
        split
        · exact lessW_keep w x
        · split
          · exact ⟨(turnW_keep _ _ _).1.trans (lessW_keep w x).1, (turnW_keep _ _ _).2.trans (lessW_keep w x).2⟩
          · exact lessW_keep w x
      · exact ⟨rfl, rfl⟩
  · split
    · exact ⟨rfl, rfl⟩
    · split
      · unfold ownW
        repeat (split; exact turnW_keep _ _ _)
        exact turnW_keep _ _ _
      · exact ⟨rfl, rfl⟩
theorem Going.step {sz i : Nat} {g : Gh Item} {nf : Nat → Node} {Fs : Nat → List Item} {y : Wld} {m : Mem} (h : Going sz i g nf Fs y m) (hi : i ≤ 1000) {x : MoveV} {y' : Wld} (habs : y'.abs = moveW y.abs x) : ∃ g' nf' Fs', Inv sz (i + 1) y.su.length g' nf' Fs' y'.abs ∧ y'.su = y.su ∧ y'.ts = y.ts := by
  obtain ⟨g', nf', Fs', hi'⟩ := h.inv.moved h.com hi x
  have hk := moveW_keep y.abs x
  rw [← habs] at hi' hk
  exact ⟨g', nf', Fs', hi', hk.1, hk.2⟩
set_option maxRecDepth 100000 in
set_option maxHeartbeats 40000000 in
theorem lawSafe_ok : SpecOk Try.prog 8 lawSafeSpec := by
  refine spec_of_exec (fn := Try.f8) (c := Try.f8.body.getD .skip) (d := 1) (lv := ([0, 1, 4, 6, 7, 8, 9, 10, 12, 14, 25, 46, 57, 68, 69, 70, 71, 84])) (DP := DPy T1 (CPs S30) ([0, 1, 4, 6, 7, 8, 9, 10, 12, 14, 25, 46, 57, 68, 69, 70, 71, 84])) T1_ok S30_ok (fun B => DPy_ok T1_ok ord S30_ok B) lawSafeSpec (by rfl) (by rfl) (by rfl) (fun _ => Nat.le_of_ble_eq_true (by kernel_rfl)) ?_
  rintro ⟨size, xs, B, c, m⟩ ⟨hM, hc, hl⟩
  conv => whnf
  refine ⟨m, trivial, ?_⟩
  conv => whnf
  repeat (first | exact trivial | (refine ⟨by first | exact ⟨rfl, rfl, rfl⟩ | rfl | exact ⟨rfl, rfl⟩ | exact ⟨rfl, fun _ _ => rfl⟩ | exact fun _ _ h => h | (intro _ _ h; cases h; done), ?_⟩; conv => whnf))
  intro _ _
  conv => whnf
  refine ⟨fun h => absurd h (by decide), fun _ => ?_⟩
  conv => whnf
  refine ⟨fun hbad => ?_, fun hgood => ?_⟩
  · conv => whnf
    refine ⟨m, trivial, ?_⟩
    conv => whnf
    repeat (first | exact trivial | (refine ⟨by first | exact ⟨rfl, rfl, rfl⟩ | rfl | exact ⟨rfl, rfl⟩ | exact ⟨rfl, fun _ _ => rfl⟩ | exact fun _ _ h => h | (intro _ _ h; cases h; done), ?_⟩; conv => whnf))
    intro _ _
    conv => whnf
    refine ⟨⟨0, size, emptyL, none, 0, m⟩, ⟨Cells.nil _ _, by decide⟩, ?_⟩
    conv => whnf
    repeat (first | exact trivial | (refine ⟨by first | exact ⟨rfl, rfl, rfl⟩ | rfl | exact ⟨rfl, rfl⟩ | exact ⟨rfl, fun _ _ => rfl⟩ | exact fun _ _ h => h | (intro _ _ h; cases h; done), ?_⟩; conv => whnf))
    rintro ⟨n7, A7, c7, m7⟩ ⟨hn7, ⟨hc7, hle7⟩, hx7⟩ m8 h28 h78
    conv => whnf
    have hend : (if (if decide (size ≥ 1) = true then decide (size ≤ 7) else false) = true then true else (newR 0 size emptyL).e == 1) = true := by
      refine ands fun h => ?_
      rw [newR_bad fun h2 => h ⟨decide_eq_true h2.1, decide_eq_true h2.2⟩]
      rfl
    refine ⟨(), trivial, ?_⟩
    conv => whnf
    repeat (first | exact trivial | exact fun _ _ h => h | (refine ⟨by first | exact ⟨rfl, rfl, rfl⟩ | rfl | exact ⟨rfl, rfl⟩ | exact ⟨rfl, fun _ _ => rfl⟩ | exact fun _ _ h => h | (intro _ _ h; cases h; done) | exact hend, ?_⟩; conv => whnf))
    exact h28
  · have hg2 : (1 ≤ size ∧ size ≤ 7) ∧ xs.length ≤ 400 := by
      have h3 := ors hgood
      have k1 := of_decide_eq_false h3.1
      have k2 := of_decide_eq_false h3.2.1
      have k3 := of_decide_eq_false h3.2.2
      omega
    obtain ⟨⟨h1, h7⟩, hxl⟩ := hg2
    obtain ⟨sz, rfl⟩ : ∃ sz : Nat, size = (sz : Int) := ⟨size.toNat, by omega⟩
    conv => whnf
    refine ⟨SafeL, fun ⟨i, ns, m1⟩ => i ≤ sz ∧ Newly (sz : Int) ns m1 i ∧ ∀ b o, m b = some o → m1 b = some o, fun ⟨i, ns, _⟩ => ⟨86, [⟨0, [], .i .i64 (sz : Int)⟩, ⟨1, [], .sl B xs.length c⟩, ⟨7, [], .p 0 0⟩, ⟨8, [], .i .i64 i⟩], [], worldH 1 2 3 4 5 6 ⟨ns, [], [], [], [], [], 0⟩, 7⟩, fun x => x.m, fun x => sz - x.i, ⟨⟨0, [], m⟩, rfl, ⟨Nat.zero_le _, ⟨rfl, fun v z h => by cases h⟩, fun _ _ h => h⟩, ?_⟩, ?_⟩
    conv => whnf
    · conv => whnf
      repeat (first | exact trivial | (refine ⟨by first | exact ⟨rfl, rfl, rfl⟩ | rfl | exact ⟨rfl, rfl⟩ | exact ⟨rfl, fun _ _ => rfl⟩ | exact fun _ _ h => h | (intro _ _ h; cases h; done), ?_⟩; conv => whnf))
    rintro ⟨i, ns, m1⟩ ⟨hi, hnew, hx1⟩
    refine ⟨fun hlt => ?_, fun hge => ?_⟩
    conv => whnf
    · have hlt : i < sz := by have h2 : (i : Int) < (sz : Int) := of_decide_eq_true hlt; omega
      refine ⟨m1, trivial, ?_⟩
      conv => whnf
      repeat (first | exact trivial | (refine ⟨by first | exact ⟨rfl, rfl, rfl⟩ | rfl | exact ⟨rfl, rfl⟩ | exact ⟨rfl, fun _ _ => rfl⟩ | exact fun _ _ h => h | (intro _ _ h; cases h; done), ?_⟩; conv => whnf))
      intro _ _
      conv => whnf
      refine ⟨⟨(i : Int), (sz : Int), emptyL, none, 0, m1⟩, ⟨Cells.nil _ _, by decide⟩, ?_⟩
      conv => whnf
      repeat (first | exact trivial | (refine ⟨by first | exact ⟨rfl, rfl, rfl⟩ | rfl | exact ⟨rfl, rfl⟩ | exact ⟨rfl, fun _ _ => rfl⟩ | exact fun _ _ h => h | (intro _ _ h; cases h; done), ?_⟩; conv => whnf))
      rintro ⟨n7, A7, c7, m7⟩ ⟨hn7, ⟨hc7, hle7⟩, hx7⟩ m8 h28 h78
      conv => whnf
      have hn0 : newR (i : Int) (sz : Int) emptyL = ⟨newN (i : Int) (sz : Int), [], 0⟩ := newR_ok (by omega) (by omega) (by omega)
      have hn7 : n7 = newN (i : Int) (sz : Int) := hn7.trans (by rw [hn0])
      refine ⟨fun h => absurd h (by rw [hn0]; show ¬ ((0 : Int) != 0) = true; decide), fun _ => ?_⟩
      conv => whnf
      refine Or.inl (Or.inr ⟨[0,7], sc8_13, by kernel_rfl, ?_⟩)
      conv => whnf
      repeat (first | exact trivial | (refine ⟨by first | exact ⟨rfl, rfl, rfl⟩ | rfl | exact ⟨rfl, rfl⟩ | exact ⟨rfl, fun _ _ => rfl⟩ | exact fun _ _ h => h | (intro _ _ h; cases h; done), ?_⟩; conv => whnf))
      have hil := hnew.len
      refine ⟨Nat.le_refl 1, ?_⟩
      conv => whnf
      repeat (first | exact trivial | (refine ⟨by first | exact ⟨rfl, rfl, rfl⟩ | rfl | exact ⟨rfl, rfl⟩ | exact ⟨rfl, fun _ _ => rfl⟩ | exact fun _ _ h => h | (intro _ _ h; cases h; done), ?_⟩; conv => whnf))
      refine ⟨⟨Nat.le_refl _, by show (ns.length + 1) * 232 ≤ _; omega, by show ns.length + 1 ≤ _; omega⟩, ?_⟩
      conv => whnf
      have hrow := nps_row (ys := ns) (y := ⟨n7, A7, c7⟩)
      refine ⟨⟨i + 1, ns ++ [⟨n7, A7, c7⟩], m8⟩, rfl, ⟨⟨hlt, hnew.push hn7 ⟨hc7.ext h78, hle7⟩ h28, fun b o h => h28 b o (hx1 b o h)⟩, by show sz - (i + 1) < sz - i; omega⟩, ?_⟩
      conv => whnf
      repeat (first | exact trivial | (refine ⟨by first | exact ⟨rfl, rfl, rfl⟩ | rfl | exact ⟨rfl, rfl⟩ | exact ⟨rfl, fun _ _ => rfl⟩ | exact fun _ _ h => h | (intro _ _ h; cases h; done) | exact wrapi_succ (by omega) | exact hrow.1 | exact hrow, ?_⟩; conv => whnf))
    · have hge : sz = i := by have h2 : ¬ (i : Int) < (sz : Int) := of_decide_eq_false hge; omega
      subst hge
      have hGo := going_begin (by omega) (by omega) hnew
      refine Exists.elim hGo fun g hGo => Exists.elim hGo fun nf hGo => Exists.elim hGo fun Fs hGo => ?_
      conv => whnf
      refine ⟨SafeW, fun ⟨i, y, m2, g, nf, Fs⟩ => i ≤ xs.length ∧ Going sz i g nf Fs y m2 ∧ ∀ b o, m b = some o → m2 b = some o, fun ⟨i, y, _, _, _, _⟩ => ⟨86, [⟨7, [], .p 0 0⟩, ⟨68, [], .sl B xs.length c⟩, ⟨69, [], .i .i64 xs.length⟩, ⟨70, [], .i .i64 i⟩], [], worldH 1 2 3 4 5 6 y, 7⟩, fun x => x.m, fun x => xs.length - x.i, ⟨⟨0, ⟨ns, [], [], [], [], [], 0⟩, m1, g, nf, Fs⟩, rfl, ⟨Nat.zero_le _, hGo, hx1⟩, ?_⟩, ?_⟩
      conv => whnf
      · conv => whnf
        repeat (first | exact trivial | (refine ⟨by first | exact ⟨rfl, rfl, rfl⟩ | rfl | exact ⟨rfl, rfl⟩ | exact ⟨rfl, fun _ _ => rfl⟩ | exact fun _ _ h => h | (intro _ _ h; cases h; done), ?_⟩; conv => whnf))
      rintro ⟨i, y, m2, g, nf, Fs⟩ ⟨hi, hGo, hx2⟩
      refine ⟨fun hlt => ?_, fun hge => ?_⟩
      conv => whnf
      · have hlt : i < xs.length := by have h2 : (i : Int) < (xs.length : Int) := of_decide_eq_true hlt; omega
        have hE := show ∃ x, xs[i]? = some x from ⟨_, List.getElem?_eq_getElem hlt⟩
        refine Exists.elim hE fun x hx => ?_
        have hM2 : Cells m2 B (movesV xs) := hM.ext hx2
        have hmild := hGo.inv.mild (by omega)
        refine ⟨⟨Int.natCast_nonneg _, by show (i : Int) < (xs.length : Int); omega, hM2.someV hx⟩, ?_⟩
        conv => whnf
        refine ⟨.g [.i .i64 x.kind, .i .i64 x.who, .i .i64 x.i], ⟨rfl, rfl, mem_move hM2 hx⟩, ?_⟩
        conv => whnf
        refine ⟨⟨y, x, m2⟩, ⟨hGo.mem, hmild⟩, ?_⟩
        conv => whnf
        repeat (first | exact trivial | (refine ⟨by first | exact ⟨rfl, rfl, rfl⟩ | rfl | exact ⟨rfl, rfl⟩ | exact ⟨rfl, fun _ _ => rfl⟩ | exact fun _ _ h => h | (intro _ _ h; cases h; done), ?_⟩; conv => whnf))
        rintro ⟨y', m'⟩ ⟨habs, hin, hx'⟩ m8 h28 h78
        have hin8 : InM m8 y' := hin.ext h78
        have hE := hGo.step (by omega) habs
        refine Exists.elim hE fun g' hE => Exists.elim hE fun nf' hE => Exists.elim hE fun Fs' hE => ?_
        obtain ⟨hinv, hsu, hts⟩ := hE
        have hlook := hinv.looked (by omega)
        have hlow := hinv.low
        have hseen := hinv.seen
        have hsl' : y'.su.length ≤ 1000 := by rw [hsu]; exact hGo.sl
        have hlow' : ∀ z ∈ y'.ns, z.n.log.base.toNat ≤ y'.su.length := by rw [hsu]; exact hlow
        conv => whnf
        refine ⟨⟨y', m8, sz, g', Fs'⟩, ⟨hin8, hlook, hseen, hsl', hlow'⟩, ?_⟩
        conv => whnf
        repeat (first | exact trivial | (refine ⟨by first | exact ⟨rfl, rfl, rfl⟩ | rfl | exact ⟨rfl, rfl⟩ | exact ⟨rfl, fun _ _ => rfl⟩ | exact fun _ _ h => h | (intro _ _ h; cases h; done), ?_⟩; conv => whnf))
        rintro ⟨su, si⟩ ⟨hS, hsl, hmono, hcom⟩
        have hinv2 : Inv sz (i + 1) su.length g' nf' Fs' ({ y' with su := su, si := si } : Wld).abs := hinv.told (ts := y'.ts) (ls := y'.ls) hinv.led hS (by rw [← hsu]; exact hmono)
        have htl' : y'.ts.length ≤ 10000 := by rw [hts]; have := hGo.tl; omega
        have hnl : y'.ns.length ≤ 7 := by have := hlook.len; omega
        conv => whnf
        refine ⟨fun h => absurd h (by decide), fun _ => ?_⟩
        conv => whnf
        refine ⟨⟨{ y' with su := su, si := si }, m8, sz, g', Fs'⟩, ⟨⟨hin8.n, hin8.u⟩, hlook, hS, hsl, hinv2.led, htl'⟩, ?_⟩
        conv => whnf
        repeat (first | exact trivial | (refine ⟨by first | exact ⟨rfl, rfl, rfl⟩ | rfl | exact ⟨rfl, rfl⟩ | exact ⟨rfl, fun _ _ => rfl⟩ | exact fun _ _ h => h | (intro _ _ h; cases h; done), ?_⟩; conv => whnf))
        rintro ⟨ts, ls⟩ ⟨hLd, htl⟩
        have hGo2 : Going sz (i + 1) g' nf' Fs' { y' with su := su, si := si, ts := ts, ls := ls } m8 := by
          refine ⟨hinv2.told (ts := ts) (ls := ls) hLd hS (Nat.le_refl _), ⟨hin8.n, hin8.u⟩, fun n hn => ?_, hsl, ?_⟩
          · obtain ⟨z, hz, rfl⟩ := List.mem_map.1 hn
            exact hcom z hz
          · have h2 : ts.length ≤ y'.ts.length + y'.ns.length := htl
            have h3 := hGo.tl
            have h4 : y'.ts.length = y.ts.length := congrArg List.length hts
            show ts.length ≤ 7 * (i + 1)
            omega
        conv => whnf
        refine ⟨fun h => absurd h (by decide), fun _ => ?_⟩
        conv => whnf
        refine ⟨⟨i + 1, { y' with su := su, si := si, ts := ts, ls := ls }, m8, g', nf', Fs'⟩, rfl, ⟨⟨hlt, hGo2, fun b o h => h28 b o (hx2 b o h)⟩, by show xs.length - (i + 1) < xs.length - i; omega⟩, ?_⟩
        conv => whnf
        repeat (first | exact trivial | (refine ⟨by first | exact ⟨rfl, rfl, rfl⟩ | rfl | exact ⟨rfl, rfl⟩ | exact ⟨rfl, fun _ _ => rfl⟩ | exact fun _ _ h => h | (intro _ _ h; cases h; done) | exact wrapi_succ (by omega), ?_⟩; conv => whnf))
      · conv => whnf
        refine ⟨(), trivial, ?_⟩
        conv => whnf
        repeat (first | exact trivial | exact fun _ _ h => h | (refine ⟨by first | exact ⟨rfl, rfl, rfl⟩ | rfl | exact ⟨rfl, rfl⟩ | exact ⟨rfl, fun _ _ => rfl⟩ | exact fun _ _ h => h | (intro _ _ h; cases h; done), ?_⟩; conv => whnf))
        exact hx2
end Go.Proofs.Ytjpjiniclibgkaa.Sx

namespace Go.Proofs.Ytjpjiniclibgkaa.Safe
open Go Go.ChangeShapes Go.WideShapes Go.ChangeAt Go.RowKit Sx

theorem contract (H : Type) (enc : TypeId × Value → H) (W : World) (base : Nat) (args : Array Value) (ds gs : List (DataW H)) (before : List MemPlace)
    (hval : ∀ (j : Nat) t v, Try.f8.params[j]? = some t → args[j]? = some v → Value.okWide Try.prog W .any base t v)
    (hW : DataW.Whole enc Try.prog Try.f8.params.toList Rows.raftSafeSpec.vars false W args.toList ds gs before) (hw : (DataW.weightsEach Try.prog (Try.f8.params.toList ++ (OpenSpec.ofChange Rows.raftSafeSpec).bare.plain.varTypes Try.prog) (ds ++ gs)).all (· ≤ reachBytes) = true) :
    Calls Try.prog 8 args W fun e W' => ∃ v, e = .returned v ∧ Rows.raftSafeSpec.post enc Try.prog Try.f8 false true false false W args v W' := by
  have hW' := hW
  obtain ⟨p, q, hA0, hV, rfl, hfz, hnd⟩ := hW
  have hA : DataW.TrodAll enc Try.prog W 0 (fun _ => true) true Try.f8.params.toList args.toList ds p := hA0
  rw [Try.params8] at hA hval
  obtain ⟨v0, vs0, d0, ds0, p0, q0, hargs, rfl, rfl, h0, r0⟩ := trodAll_cons hA
  obtain ⟨v1, vs1, d1, ds1, p1, q1, rfl, rfl, rfl, h1, r1⟩ := trodAll_cons r0
  obtain ⟨rfl, rfl, rfl⟩ := trodAll_nil r1
  obtain rfl : args = #[v0, v1] := by cases args; simp_all
  rw [Try.params8] at hw
  simp only [List.cons_append, List.nil_append, DataW.weightsEach, List.all_append, Bool.and_eq_true] at hw
  obtain ⟨i0, rfl, rfl, _, hwf0⟩ := open_int und3 (hval 0 3 v0 rfl rfl) h0
  have hf0 := wf_fits hwf0
  obtain ⟨fu1, ht1⟩ := trod_one64 (hval 1 64 v1 rfl rfl) h1
  obtain ⟨A1, c1, xs1, he1, hM1, hc1, hl1⟩ := open_moves ht1 hw.2.1
  cases he1
  refine (law_calls lawSafe_ok ⟨i0, xs1, A1, c1, allMem W⟩ ⟨hM1, hc1, hl1⟩ (fun _ _ h => h) rfl (by rfl) fun _ => rfl).mono fun e W' ⟨he, hbl⟩ => ⟨_, he, ?_⟩
  exact law_post hbl laidOut (by rw [Try.params8]; intro t ht; simp only [List.mem_cons, List.not_mem_nil, or_false] at ht; rcases ht with rfl | rfl <;> exact ⟨by kernel_rfl, of_decide_eq_true (by kernel_rfl)⟩) (by kernel_rfl) und4 rfl
    (fun ds hd => by rw [Try.params8] at hd; match ds, hd with | [_, _], _ => rfl) hW'

theorem reads (os : Os) {H : Type} (enc : TypeId × Value → H) : ∃ places, DataW.whole enc Try.prog ((laidWorld os).forCall (fun _ _ => 0) ⟨#[], #[.int .i64 0, .slice none 0 0], []⟩).memory Try.f8.params.toList Rows.raftSafeSpec.vars false (#[.int .i64 0, .slice none 0 0] : Array Value).toList 8 = some ([.lit (.int .i64 0), .nil], [], places) :=
  ⟨[], by kernel_rfl⟩
set_option maxRecDepth 100000 in
theorem lifted (os : Os) (started : os.Started) (H : Type) (enc : TypeId × Value → H) (F : Stop.Interp) :
    ReturnsInHanded {} Try.checked os 8 .any ((OpenSpec.ofChange Rows.raftSafeSpec).preRow enc Try.prog Try.f8 Rows.raftSafeRow.domain false Rows.raftSafeRow.laid) (((OpenSpec.ofChange Rows.raftSafeSpec).at F).post enc Try.prog Try.f8 false true false false) := by
  obtain ⟨places, hx⟩ := reads os enc
  refine returnsInHanded_of_row (C := Try.checked) (s := OpenSpec.ofChange Rows.raftSafeSpec) own started (by kernel_rfl) Try.func8
    (witness_row_at (enc := enc) (C := Try.checked) false (laidWorld os) #[.int .i64 0, .slice none 0 0] rfl (by kernel_rfl) (by kernel_rfl) (by kernel_rfl)
      (OpenSpec.preRow_of_cond 8 hx (by kernel_rfl) (fun k hk => by cases hk) (by kernel_rfl) (laid_none os _))) ?_
  intro W base args ds gs before hval hW _ _ hw hL _ _
  exact contract H enc W base args ds gs before hval hW hw
theorem said : Rows.RaftSafeSaid :=
  OpenClaim.holds_of_cond 8 Try.f8 rfl rfl rfl rfl rfl rfl rfl ⟨rfl, rfl, rfl, rfl, rfl⟩ rfl rfl rfl rfl rfl (by kernel_rfl) Try.func8 (by kernel_rfl)
    (of_decide_eq_true (by kernel_rfl)) (by unfold Func.isWrapper; first | (rw [if_pos (by decide +kernel)]; kernel_rfl) | (rw [if_neg (by decide +kernel)]; exact ⟨rfl, rfl⟩))
    (fun os started H enc _ F => by rw [OpenClaim.pre_eq_preRow]; exact lifted os started H enc F)
end Go.Proofs.Ytjpjiniclibgkaa.Safe
