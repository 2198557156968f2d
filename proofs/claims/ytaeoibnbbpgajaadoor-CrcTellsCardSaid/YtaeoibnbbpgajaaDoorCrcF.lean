/- What the statements' functions answer: CrcTells. -/
import Derived.Test.YtaeoibnbbpgajaaDoorCrcE
import Derived.Test.YtaeoibnbbpgajaaDoorTurn
namespace Go.Proofs.YtaeoibnbbpgajaaDoor.Sx
open Go

structure TellG where
  A : Option Addr
  c : Nat
  l : List (BitVec 8)
  at' : Int
  ms : Nat → BitVec 8
  m : Mem
def lawTells : Spec where
  A := TellG
  R := fun ⟨A, _, l, at', _, m⟩ => Bytes m A l ∧ Tabs m ∧ l.length ≤ reachBytes ∧ -9223372036854775808 ≤ at' ∧ at' ≤ 9223372036854775807
  J := fun ⟨_, _, _, _, _, m⟩ => m
  args := fun ⟨A, c, l, at', ms, _⟩ => [.sl A l.length c, .i .i64 at', .g [.gi 4 .u8 fun j => ((ms j).toNat : Int)]]
  h := fun _ => []
  nx := 0
  Bb := Unit
  C := fun _ _ => True
  out := fun _ _ => lawOut
  h2 := fun _ _ => []
  nx2 := 0
theorem Bytes.rdM {m : Mem} {A : Option Addr} {l : List (BitVec 8)} (h : Bytes m A l) (hp : 0 < l.length) : rdM m A 0 (l.length * 1) (l.map bv8) := by
  obtain ⟨a, ha, _⟩ := h 0 (l[0]'hp) (List.getElem?_eq_getElem hp)
  refine ⟨a, ha, by simp, fun j u hj => ?_⟩
  rw [List.getElem?_map] at hj
  cases hl : l[j]? with
  | none => rw [hl] at hj; cases hj
  | some b =>
    rw [hl] at hj
    cases hj
    obtain ⟨a', ha', hm⟩ := h j b hl
    rw [ha] at ha'
    cases ha'
    rw [Nat.zero_add]
    exact hm
theorem wrapi (x : Int) (h0 : -9223372036854775808 ≤ x) (h1 : x ≤ 9223372036854775807) : IntKind.i64.wrap x = x := by
  by_cases h : 0 ≤ x
  · have h2 : x % 2 ^ 64 = x := by omega
    simp only [IntKind.wrap, IntKind.bits, IntKind.signed, h2]
    rw [if_neg (by simp; omega)]
  · have h2 : x % 2 ^ 64 = x + 2 ^ 64 := by omega
    simp only [IntKind.wrap, IntKind.bits, IntKind.signed, h2]
    rw [if_pos (by simp; omega)]
    omega
theorem hits_eq (at' : Int) (n i : Nat) (hn : n < 2 ^ 62) (hi : i ≤ 4) : (if decide (at' ≥ 0) = true then decide (at' < IntKind.i64.wrap ((n : Int) - (i : Int))) else false) = Plain.hits at' n i := by
  rw [wrapi _ (by omega) (by omega)]
  unfold Plain.hits
  by_cases h : 0 ≤ at'
  · simp [h]
  · simp [h]
theorem row_modify (l : List (BitVec 8)) (o : Nat) (f : BitVec 8 → BitVec 8) (x : BitVec 8) (h : l[o]? = some x) :
    (l.map bv8).take o ++ ([bv8 (f x)] ++ (l.map bv8).drop (o + 1)) = (l.modify o f).map bv8 := by
  have hol := (List.getElem?_eq_some_iff.1 h).1
  apply List.ext_getElem?
  intro j
  rw [List.getElem?_map, List.getElem?_modify]
  have hl : ((l.map bv8).take o).length = o := by rw [List.length_take, List.length_map]; omega
  rcases Nat.lt_trichotomy j o with hj | hj | hj
  · rw [List.getElem?_append_left (by omega), List.getElem?_take, if_pos hj, List.getElem?_map]
    cases l[j]? with
    | none => rfl
    | some y => show some (bv8 y) = some (bv8 (if o = j then f y else y)); rw [if_neg (by omega)]
  · subst hj
    rw [List.getElem?_append_right (by omega), hl, Nat.sub_self, h]
    show some (bv8 (f x)) = some (bv8 (if j = j then f x else x))
    rw [if_pos rfl]
  · rw [List.getElem?_append_right (by omega), hl, List.getElem?_append_right (by simp; omega), List.getElem?_drop, List.getElem?_map]
    have e : o + 1 + (j - o - [bv8 (f x)].length) = j := by simp; omega
    rw [e]
    cases l[j]? with
    | none => rfl
    | some y => show some (bv8 y) = some (bv8 (if o = j then f y else y)); rw [if_neg (by omega)]
theorem ne8 (b : BitVec 8) : ((b.toNat : Int) != 0) = (b != 0#8) := by
  by_cases h : b = 0#8
  · subst h; rfl
  · have h1 : (b != 0#8) = true := by simpa using h
    have h2 : ¬ (b.toNat : Int) = 0 := fun e => h (BitVec.eq_of_toNat_eq (by simpa using e))
    rw [h1]; simpa using h2
set_option maxRecDepth 100000 in
theorem lawTells_ok : SpecOk Tryd.prog 4 lawTells := by
  refine spec_of_exec (fn := Tryd.f4) (c := Tryd.f4.body.getD .skip) (d := 1) (lv := lvAll) (DP := DPx T0 (CPs S3) lvAll) T0_ok S3_ok (fun B => DPx_ok T0_ok (by rfl) S3_ok B) lawTells (by rfl) (by rfl) (by rfl) (fun _ => by show 3 ≤ 53; omega) ?_
  rintro ⟨A, c, l, at', ms, m⟩ ⟨hb, ht, hl, ha0, ha1⟩
  obtain ⟨n, hn⟩ : ∃ n, n = l.length := ⟨_, rfl⟩
  unfold reachBytes at hl
  conv => whnf
  refine ⟨m, ht, ?_⟩
  conv => whnf
  repeat (first | (refine ⟨by first | exact ⟨rfl, rfl, rfl⟩ | rfl | exact fun _ _ h => h, ?_⟩; conv => whnf))
  intro _ _
  conv => whnf
  refine ⟨fun h => (by cases h), fun _ => ?_⟩
  conv => whnf
  refine ⟨l.map bv8, ⟨by simp, fun u hu => by simp only [List.mem_map] at hu; obtain ⟨b, _, rfl⟩ := hu; rfl, fun h => hb.rdM h⟩, ?_⟩
  conv => whnf
  refine ⟨⟨Nat.le_refl _, by show (0 + l.length) * 1 ≤ _; omega, by omega⟩, ?_⟩
  conv => whnf
  refine ⟨Nat, fun i => i ≤ 4, fun i => ⟨53, [⟨0, [], .sl A n c⟩, ⟨1, [], .i .i64 at'⟩, ⟨6, [], .b false⟩, ⟨7, [], .rw 0 n⟩, ⟨8, [], .b (Plain.un n at' ms i)⟩, ⟨16, [], .g [.gi 4 .u8 fun j => ((ms j).toNat : Int)]⟩, ⟨17, [], .i .i64 i⟩], [], [(0, .row 5 1 n ((Plain.ap l at' ms i).map bv8))], 1⟩, fun _ => m, fun i => 4 - i, ⟨0, rfl, Nat.zero_le _, ?_⟩, ?_⟩
  · conv => whnf
    repeat (first | exact trivial | (refine ⟨by first | exact ⟨rfl, rfl, rfl⟩ | exact ⟨rfl, hn.symm, rfl⟩ | rfl | exact ⟨rfl, fun _ _ => rfl⟩ | (show 0 + l.length = n; omega) | (refine ⟨by show 0 + l.length = n; omega, rfl⟩), ?_⟩; conv => whnf))
  · intro i hi
    conv => whnf
    refine ⟨fun hlt => ?_, fun hge => ?_⟩
    · have hlt : i < 4 := by have h2 := of_decide_eq_true hlt; omega
      conv => whnf
      refine ⟨⟨Int.natCast_nonneg _, by show (i : Int) < 4; omega⟩, ?_⟩
      conv => whnf
      have hhe := hits_eq at' n i (by omega) hi
      obtain ⟨x, hx⟩ : ∃ x, x = ms i := ⟨_, rfl⟩
      refine ⟨fun hh => ?_, fun hh => ?_⟩
      · rw [hhe] at hh
        have h2 := hh
        simp only [Plain.hits, Bool.and_eq_true, decide_eq_true_eq] at h2
        have hw : IntKind.i64.wrap (at' + (i : Int)) = at' + (i : Int) := wrapi _ (by omega) (by omega)
        have ho : (IntKind.i64.wrap (at' + (i : Int))).toNat * 1 = at'.toNat + i := by rw [hw]; omega
        have hcl := Plain.ap_len l at' ms i
        obtain ⟨y, hy⟩ : ∃ y, (Plain.ap l at' ms i)[at'.toNat + i]? = some y := ⟨_, List.getElem?_eq_getElem (by omega)⟩
        have hun : (if Plain.un n at' ms i = true then true else (((ms (i : Int).toNat).toNat : Int) != 0)) = Plain.un n at' ms (i + 1) := by
          have e : Plain.un n at' ms (i + 1) = (Plain.un n at' ms i || (ms i != 0#8)) := by
            show (if Plain.hits at' n i = true then _ else _) = _
            rw [hh, if_pos rfl]
          rw [e, Int.toNat_natCast, ne8]
          cases Plain.un n at' ms i <;> rfl
        have hrow : List.take ((IntKind.i64.wrap (at' + (i : Int))).toNat * 1) ((Plain.ap l at' ms i).map bv8) ++ ([Value.int .u8 (bits .xor .u8 (y.toNat : Int) ((ms (i : Int).toNat).toNat : Int))] ++ List.drop ((IntKind.i64.wrap (at' + (i : Int))).toNat * 1 + 1) ((Plain.ap l at' ms i).map bv8)) = (Plain.ap l at' ms (i + 1)).map bv8 := by
          have hu : Plain.ap l at' ms (i + 1) = (Plain.ap l at' ms i).modify (at'.toNat + i) (fun q => q ^^^ ms i) := by
            show (if Plain.hits at' l.length i = true then _ else _) = _
            rw [← hn, hh, if_pos rfl]
          rw [bits_xor8, ho, Int.toNat_natCast, hu]
          exact row_modify _ _ (fun q => q ^^^ ms i) y hy
        conv => whnf
        refine ⟨by rw [hw]; refine ⟨by omega, by show at' + (i : Int) < (n : Int); omega, Nat.le_refl _⟩, ?_⟩
        conv => whnf
        refine ⟨.i .u8 (y.toNat : Int), ⟨rfl, rfl, rfl, ?_⟩, ?_⟩
        · show (IntKind.i64.wrap (at' + (i : Int))).toNat * 1 + 1 ≤ _ ∧ [Value.int .u8 (y.toNat : Int)] = (List.drop ((IntKind.i64.wrap (at' + (i : Int))).toNat * 1) _).take 1
          rw [ho, List.length_map, hcl]
          refine ⟨by omega, ?_⟩
          rw [← List.map_drop, ← List.map_take]
          have : ((Plain.ap l at' ms i).drop (at'.toNat + i)).take 1 = [y] := by
            rw [List.take_one, List.head?_drop, hy]; rfl
          rw [this]; rfl
        conv => whnf
        refine ⟨by rw [hw]; refine ⟨by omega, by show at' + (i : Int) < (n : Int); omega, Nat.le_refl _⟩, ?_⟩
        conv => whnf
        refine ⟨⟨by show (IntKind.i64.wrap (at' + (i : Int))).toNat * 1 + 1 ≤ _; rw [ho, List.length_map, hcl]; omega, rfl⟩, ?_⟩
        conv => whnf
        refine ⟨i + 1, rfl, ⟨by omega, by show 4 - (i + 1) < 4 - i; omega⟩, ?_⟩
        conv => whnf
        repeat (first | exact trivial | (refine ⟨by first | exact ⟨rfl, rfl, rfl⟩ | rfl | exact wrap64 _ (by omega) | exact ⟨rfl, fun _ _ => rfl⟩ | exact hun | exact ⟨rfl, hrow⟩, ?_⟩; conv => whnf))
      · rw [hhe] at hh
        have hun : Plain.un n at' ms i = Plain.un n at' ms (i + 1) := by
          show _ = (if Plain.hits at' n i = true then _ else _)
          rw [hh, if_neg (by decide)]
        conv => whnf
        refine ⟨i + 1, rfl, ⟨by omega, by show 4 - (i + 1) < 4 - i; omega⟩, ?_⟩
        conv => whnf
        repeat (first | exact trivial | (refine ⟨by first | exact ⟨rfl, rfl, rfl⟩ | rfl | exact wrap64 _ (by omega) | exact ⟨rfl, fun _ _ => rfl⟩ | exact hun | (refine ⟨rfl, ?_⟩; have hu : Plain.ap l at' ms (i + 1) = Plain.ap l at' ms i := (by show (if Plain.hits at' l.length i = true then _ else _) = _; rw [← hn, hh, if_neg (by decide)]); rw [hu]), ?_⟩; conv => whnf))
    · have hge : i = 4 := by have h2 := of_decide_eq_false hge; omega
      subst hge
      conv => whnf
      have hb' : Bytes m A l := hb
      subst hn
      refine ⟨⟨A, c, l, m⟩, ⟨hb, ht, by omega⟩, ?_⟩
      conv => whnf
      repeat (first | (refine ⟨by first | exact ⟨rfl, rfl, rfl⟩ | rfl | exact fun _ _ h => h, ?_⟩; conv => whnf))
      intro _ _
      conv => whnf
      intro A' cap m' hS
      conv => whnf
      have hS' := Sealed.bytes (l := Plain.ap l at' ms 4) hS
      have hTm : Tabs m' := hS.tabs ht
      have hcl := Plain.ap_len l at' ms 4
      refine ⟨⟨A', cap, Plain.ap l at' ms 4, m'⟩, ⟨hS', hTm, by rw [hcl]; omega⟩, ?_⟩
      conv => whnf
      repeat (first | (refine ⟨by first | exact ⟨rfl, rfl, rfl⟩ | exact ⟨rfl, hcl.symm, rfl⟩ | rfl | exact fun _ _ h => h, ?_⟩; conv => whnf))
      intro _ _
      conv => whnf
      refine ⟨(), trivial, ?_⟩
      conv => whnf
      refine ⟨?_, ?_⟩
      · show ((((Plain.add 0 l).toNat : Int) != ((Plain.add 0 (Plain.ap l at' ms 4)).toNat : Int)) == Plain.un l.length at' ms 4) = true
        have h := Plain.turned l at' ms
        have h2 : (((Plain.add 0 l).toNat : Int) != ((Plain.add 0 (Plain.ap l at' ms 4)).toNat : Int)) = true ↔ Plain.add 0 l ≠ Plain.add 0 (Plain.ap l at' ms 4) := by
          rw [bne_iff_ne]
          constructor
          · intro h e; exact h (by rw [e])
          · intro h e; exact h (BitVec.eq_of_toNat_eq (by exact_mod_cast e))
        rw [← h2] at h
        generalize (((Plain.add 0 l).toNat : Int) != ((Plain.add 0 (Plain.ap l at' ms 4)).toNat : Int)) = p at h
        generalize Plain.un l.length at' ms 4 = q at h
        cases p <;> cases q <;> simp_all
      conv => whnf
      exact fun _ _ h => h
end Go.Proofs.YtaeoibnbbpgajaaDoor.Sx
