/- What the statements' functions answer: true. -/
import Derived.Test.YtaeoibnbbpgajaaDoorCrcB
namespace Go.Proofs.YtaeoibnbbpgajaaDoor.Sx
open Go

def wakesSpec : Spec where
  A := Mem
  R := fun m => Tabs m
  J := fun m => m
  args := fun _ => []
  h := fun _ => []
  nx := 0
  Bb := Unit
  C := fun _ _ => True
  out := fun _ _ => .ret (.b true)
  h2 := fun _ _ => []
  nx2 := 0
theorem Sealed.bytes {m m' : Mem} {A : Option Addr} {cap n : Nat} {l : List (BitVec 8)} (h : Sealed m m' A cap n 1 (l.map fun b => .int .u8 (b.toNat : Int))) : Bytes m' A l := by
  intro j b hj
  have hlen := h.len
  rw [List.length_map] at hlen
  have hjl : j < l.length := (List.getElem?_eq_some_iff.1 hj).1
  obtain ⟨a, ha, _, hc⟩ := h.rd (by omega)
  refine ⟨a, ha, ?_⟩
  have := hc j (.int .u8 (b.toNat : Int)) (by rw [List.getElem?_map, hj]; rfl)
  rwa [Nat.zero_add] at this
theorem Sealed.tabs {m m' : Mem} {A : Option Addr} {cap n z : Nat} {xs : List Value} (h : Sealed m m' A cap n z xs) (ht : Tabs m) : Tabs m' := by
  intro j hj
  have := ht j hj
  unfold mcell at this ⊢
  cases hm : m 0 with
  | none => rw [hm] at this; cases this
  | some o => rw [hm] at this; rw [h.ext 0 o hm]; exact this
set_option maxRecDepth 100000 in
theorem wakes_ok : SpecOk Tryd.prog 10 wakesSpec := by
  refine spec_of_exec (fn := Tryd.f10) (c := Tryd.f10.body.getD .skip) (d := 0) (lv := [0,1,2,3,4]) T0_ok S2_ok (fun B => noDP_ok B) wakesSpec (by rfl) (by rfl) (by rfl) (fun _ => by show 0 ≤ 5; omega) ?_
  intro m ht
  conv => whnf
  refine ⟨by omega, fun A cap m' hS => ?_⟩
  have hB := Sealed.bytes (l := [49,50,51,52,53,54,55,56,57]) hS
  have hT := hS.tabs ht
  conv => whnf
  refine ⟨⟨A, cap, [49,50,51,52,53,54,55,56,57], m'⟩, ⟨hB, hT, by show 9 < 2 ^ 62; decide⟩, ?_⟩
  conv => whnf
  repeat (first | (refine ⟨by first | exact ⟨rfl, rfl, rfl⟩ | rfl | exact fun _ _ h => h, ?_⟩; conv => whnf))
  intro _ _
  conv => whnf
  refine ⟨(), trivial, ?_⟩
  conv => whnf
  refine ⟨?_, ?_⟩
  · show (((Plain.add 0 [49,50,51,52,53,54,55,56,57]).toNat : Int) == 3421780262) = true
    decide +kernel
  · conv => whnf
    exact hS.ext

def S3 : List (Nat × Spec) := (10, wakesSpec) :: S2
theorem S3_ok : CPOk Tryd.prog (CPs S3) := CPs_ok fun f s h => by
  simp only [S3, S2, findS] at h
  repeat' split at h
  all_goals first | (rename_i hb; obtain rfl := beq_eq hb; cases h; first | exact wakes_ok | exact add_ok | exact refAdd_ok | exact sum_ok | exact refSum_ok | exact parts_ok) | cases h
def lawOut : Out := .ret (.b true)
def lawAdds : Spec where
  A := AddG
  R := fun ⟨_, A, _, l, m⟩ => Bytes m A l ∧ Tabs m ∧ l.length < 2 ^ 62
  J := fun ⟨_, _, _, _, m⟩ => m
  args := fun ⟨s, A, c, l, _⟩ => [.i .u32 (s.toNat : Int), .sl A l.length c]
  h := fun _ => []
  nx := 0
  Bb := Unit
  C := fun _ _ => True
  out := fun _ _ => lawOut
  h2 := fun _ _ => []
  nx2 := 0
set_option maxRecDepth 100000 in
theorem lawAdds_ok : SpecOk Tryd.prog 3 lawAdds := by
  refine spec_of_exec (fn := Tryd.f3) (c := Tryd.f3.body.getD .skip) (d := 0) (lv := lvAll) T0_ok S3_ok (fun B => noDP_ok B) lawAdds (by rfl) (by rfl) (by rfl) (fun _ => by show 2 ≤ 22; omega) ?_
  rintro ⟨s, A, c, l, m⟩ ⟨hb, ht, hn⟩
  conv => whnf
  repeat (first | (refine ⟨by first | exact ⟨rfl, rfl, rfl⟩ | rfl | exact fun _ _ h => h, ?_⟩; conv => whnf) | (refine ⟨fun _ => ?_, fun h => by first | cases h | (exfalso; simp at h; done)⟩; conv => whnf) | (refine ⟨fun h => by first | cases h | (exfalso; simp at h; done), fun _ => ?_⟩; conv => whnf))
  refine ⟨m, ht, ?_⟩
  conv => whnf
  repeat (first | (refine ⟨by first | exact ⟨rfl, rfl, rfl⟩ | rfl | exact fun _ _ h => h, ?_⟩; conv => whnf) | (refine ⟨fun _ => ?_, fun h => by first | cases h | (exfalso; simp at h; done)⟩; conv => whnf) | (refine ⟨fun h => by first | cases h | (exfalso; simp at h; done), fun _ => ?_⟩; conv => whnf))
  intro _ _
  conv => whnf
  repeat (first | (refine ⟨by first | exact ⟨rfl, rfl, rfl⟩ | rfl | exact fun _ _ h => h, ?_⟩; conv => whnf) | (refine ⟨fun _ => ?_, fun h => by first | cases h | (exfalso; simp at h; done)⟩; conv => whnf) | (refine ⟨fun h => by first | cases h | (exfalso; simp at h; done), fun _ => ?_⟩; conv => whnf))
  refine ⟨⟨s, A, c, l, m⟩, ⟨hb, ht, hn⟩, ?_⟩
  conv => whnf
  repeat (first | (refine ⟨by first | exact ⟨rfl, rfl, rfl⟩ | rfl | exact fun _ _ h => h, ?_⟩; conv => whnf) | (refine ⟨fun _ => ?_, fun h => by first | cases h | (exfalso; simp at h; done)⟩; conv => whnf) | (refine ⟨fun h => by first | cases h | (exfalso; simp at h; done), fun _ => ?_⟩; conv => whnf))
  intro _ _
  conv => whnf
  repeat (first | (refine ⟨by first | exact ⟨rfl, rfl, rfl⟩ | rfl | exact fun _ _ h => h, ?_⟩; conv => whnf) | (refine ⟨fun _ => ?_, fun h => by first | cases h | (exfalso; simp at h; done)⟩; conv => whnf) | (refine ⟨fun h => by first | cases h | (exfalso; simp at h; done), fun _ => ?_⟩; conv => whnf))
  refine ⟨⟨s, A, c, l, m⟩, ⟨hb, ht, hn⟩, ?_⟩
  conv => whnf
  repeat (first | (refine ⟨by first | exact ⟨rfl, rfl, rfl⟩ | rfl | exact fun _ _ h => h, ?_⟩; conv => whnf) | (refine ⟨fun _ => ?_, fun h => by first | cases h | (exfalso; simp at h; done)⟩; conv => whnf) | (refine ⟨fun h => by first | cases h | (exfalso; simp at h; done), fun _ => ?_⟩; conv => whnf))
  intro _ _
  conv => whnf
  repeat (first | (refine ⟨by first | exact ⟨rfl, rfl, rfl⟩ | rfl | exact fun _ _ h => h, ?_⟩; conv => whnf) | (refine ⟨fun _ => ?_, fun h => by first | cases h | (exfalso; simp at h; done)⟩; conv => whnf) | (refine ⟨fun h => by first | cases h | (exfalso; simp at h; done), fun _ => ?_⟩; conv => whnf))
  refine ⟨⟨A, c, l, m⟩, ⟨hb, ht, hn⟩, ?_⟩
  conv => whnf
  repeat (first | (refine ⟨by first | exact ⟨rfl, rfl, rfl⟩ | rfl | exact fun _ _ h => h, ?_⟩; conv => whnf) | (refine ⟨fun _ => ?_, fun h => by first | cases h | (exfalso; simp at h; done)⟩; conv => whnf) | (refine ⟨fun h => by first | cases h | (exfalso; simp at h; done), fun _ => ?_⟩; conv => whnf))
  intro _ _
  conv => whnf
  repeat (first | (refine ⟨by first | exact ⟨rfl, rfl, rfl⟩ | rfl | exact fun _ _ h => h, ?_⟩; conv => whnf) | (refine ⟨fun _ => ?_, fun h => by first | cases h | (exfalso; simp at h; done)⟩; conv => whnf) | (refine ⟨fun h => by first | cases h | (exfalso; simp at h; done), fun _ => ?_⟩; conv => whnf))
  refine ⟨⟨A, c, l, m⟩, ⟨hb, ht, hn⟩, ?_⟩
  conv => whnf
  repeat (first | (refine ⟨by first | exact ⟨rfl, rfl, rfl⟩ | rfl | exact fun _ _ h => h, ?_⟩; conv => whnf) | (refine ⟨fun _ => ?_, fun h => by first | cases h | (exfalso; simp at h; done)⟩; conv => whnf) | (refine ⟨fun h => by first | cases h | (exfalso; simp at h; done), fun _ => ?_⟩; conv => whnf))
  intro _ _
  conv => whnf
  refine ⟨(), trivial, ?_⟩
  conv => whnf
  refine ⟨by simp, ?_⟩
  conv => whnf
  exact fun _ _ h => h

structure ApartG where
  x : BitVec 32
  y : BitVec 32
  A : Option Addr
  c : Nat
  l : List (BitVec 8)
  m : Mem
def lawApart : Spec where
  A := ApartG
  R := fun ⟨_, _, A, _, l, m⟩ => Bytes m A l ∧ Tabs m ∧ l.length < 2 ^ 62
  J := fun ⟨_, _, _, _, _, m⟩ => m
  args := fun ⟨x, y, A, c, l, _⟩ => [.i .u32 (x.toNat : Int), .i .u32 (y.toNat : Int), .sl A l.length c]
  h := fun _ => []
  nx := 0
  Bb := Unit
  C := fun _ _ => True
  out := fun _ _ => lawOut
  h2 := fun _ _ => []
  nx2 := 0
theorem apart_eq (x y : BitVec 32) (l : List (BitVec 8)) : ((((Plain.add x l).toNat : Int) == ((Plain.add y l).toNat : Int)) == ((x.toNat : Int) == (y.toNat : Int))) = true := by
  by_cases h : x = y
  · subst h; simp
  · have h1 : Plain.add x l ≠ Plain.add y l := fun e => h (Plain.add_inj l x y e)
    have h2 : ¬ ((Plain.add x l).toNat : Int) = ((Plain.add y l).toNat : Int) := fun e => h1 (BitVec.eq_of_toNat_eq (by exact_mod_cast e))
    have h3 : ¬ (x.toNat : Int) = (y.toNat : Int) := fun e => h (BitVec.eq_of_toNat_eq (by exact_mod_cast e))
    rw [beq_eq_false_iff_ne.2 h2, beq_eq_false_iff_ne.2 h3]; rfl
set_option maxRecDepth 100000 in
theorem lawApart_ok : SpecOk Tryd.prog 6 lawApart := by
  refine spec_of_exec (fn := Tryd.f6) (c := Tryd.f6.body.getD .skip) (d := 0) (lv := lvAll) T0_ok S3_ok (fun B => noDP_ok B) lawApart (by rfl) (by rfl) (by rfl) (fun _ => by show 3 ≤ 21; omega) ?_
  rintro ⟨x, y, A, c, l, m⟩ ⟨hb, ht, hn⟩
  conv => whnf
  repeat (first | (refine ⟨by first | exact ⟨rfl, rfl, rfl⟩ | rfl | exact fun _ _ h => h, ?_⟩; conv => whnf) | (refine ⟨fun _ => ?_, fun h => by first | cases h | (exfalso; simp at h; done)⟩; conv => whnf) | (refine ⟨fun h => by first | cases h | (exfalso; simp at h; done), fun _ => ?_⟩; conv => whnf))
  refine ⟨m, ht, ?_⟩
  conv => whnf
  repeat (first | (refine ⟨by first | exact ⟨rfl, rfl, rfl⟩ | rfl | exact fun _ _ h => h, ?_⟩; conv => whnf) | (refine ⟨fun _ => ?_, fun h => by first | cases h | (exfalso; simp at h; done)⟩; conv => whnf) | (refine ⟨fun h => by first | cases h | (exfalso; simp at h; done), fun _ => ?_⟩; conv => whnf))
  intro _ _
  conv => whnf
  repeat (first | (refine ⟨by first | exact ⟨rfl, rfl, rfl⟩ | rfl | exact fun _ _ h => h, ?_⟩; conv => whnf) | (refine ⟨fun _ => ?_, fun h => by first | cases h | (exfalso; simp at h; done)⟩; conv => whnf) | (refine ⟨fun h => by first | cases h | (exfalso; simp at h; done), fun _ => ?_⟩; conv => whnf))
  refine ⟨⟨x, A, c, l, m⟩, ⟨hb, ht, hn⟩, ?_⟩
  conv => whnf
  repeat (first | (refine ⟨by first | exact ⟨rfl, rfl, rfl⟩ | rfl | exact fun _ _ h => h, ?_⟩; conv => whnf) | (refine ⟨fun _ => ?_, fun h => by first | cases h | (exfalso; simp at h; done)⟩; conv => whnf) | (refine ⟨fun h => by first | cases h | (exfalso; simp at h; done), fun _ => ?_⟩; conv => whnf))
  intro _ _
  conv => whnf
  repeat (first | (refine ⟨by first | exact ⟨rfl, rfl, rfl⟩ | rfl | exact fun _ _ h => h, ?_⟩; conv => whnf) | (refine ⟨fun _ => ?_, fun h => by first | cases h | (exfalso; simp at h; done)⟩; conv => whnf) | (refine ⟨fun h => by first | cases h | (exfalso; simp at h; done), fun _ => ?_⟩; conv => whnf))
  refine ⟨⟨y, A, c, l, m⟩, ⟨hb, ht, hn⟩, ?_⟩
  conv => whnf
  repeat (first | (refine ⟨by first | exact ⟨rfl, rfl, rfl⟩ | rfl | exact fun _ _ h => h, ?_⟩; conv => whnf) | (refine ⟨fun _ => ?_, fun h => by first | cases h | (exfalso; simp at h; done)⟩; conv => whnf) | (refine ⟨fun h => by first | cases h | (exfalso; simp at h; done), fun _ => ?_⟩; conv => whnf))
  intro _ _
  conv => whnf
  refine ⟨(), trivial, ?_⟩
  conv => whnf
  refine ⟨by rw [if_pos rfl]; exact apart_eq x y l, ?_⟩
  conv => whnf
  exact fun _ _ h => h
end Go.Proofs.YtaeoibnbbpgajaaDoor.Sx
