/- Symbolic execution, fifth text: what holds of a state, and that what looks at no more than memory is evaluated rightly. -/
import Derived.Test.YtaeoibnbbpgajaaDoorSxD
import Derived.WalkKit
namespace Go.Proofs.YtaeoibnbbpgajaaDoor.Sx

/-! ### types -/
def TOk (P : Program) (T : Tbl) : Prop := ∀ t ti, T.at t = some ti →
  P.underlying t = some ti.d ∧ cl ti.z = true ∧ (den η0 ti.z).cells.size = ti.size ∧ isG ti.z = aggD ti.d ∧ (∃ i, P.info? t = some i ∧ i.size = ti.size ∧ i.bytes = ti.bytes ∧ i.zero = some (den η0 ti.z)) ∧
  (ti.q = true → P.stoodInHeld t = false ∧ P.eqGuardType P.depth t = false ∧ ∀ fs, ti.d = .struct fs → ∀ f ∈ fs.toList, f.name ≠ "_")

/-! ### the world -/
def CkAt (η : Names) (w : World) (n : Nat) : Ck → Prop
  | .st e cs => ∃ b, (η n).A = some ⟨b, 0, none⟩ ∧ (η n).own = some b ∧ w.heap[b]? = some (.cells (dens η cs).toArray e (0, 0))
  | .row e z k xs => (xs.length = k * z ∧ ∀ u ∈ xs, u.oneCell' = true) ∧ (((η n).own = none ∧ k = 0 ∧ (η n).cap = 0) ∨
      ∃ b cur, (η n).A = some ⟨b, 0, none⟩ ∧ (η n).own = some b ∧ w.heap[b]? = some (.cells cur e (0, 0)) ∧ k ≤ (η n).cap ∧ (η n).cap ≤ maxLen ∧ cur.size = (η n).cap * z ∧ cur.toList.take (k * z) = xs)

/-- Where a call began. -/
structure Base where
  w0 : World
  mods : List Nat
  m0 : Mem
  k0 : Nat
  η0 : Names

structure Hold (B : Base) (η : Names) (m : Mem) (h : Heap) (nx : Nat) (w : World) : Prop where
  imm : ∀ b o, m b = some o → w.heap[b]? = some o
  ck : ∀ n c, lookH h n = some c → n < nx ∧ CkAt η w n c
  own : ∀ n c b, lookH h n = some c → (η n).own = some b → m b = none ∧ b < w.heap.size ∧ (b ∈ B.mods ∨ B.w0.heap.size ≤ b)
  apart : ∀ n c n' c' b, lookH h n = some c → lookH h n' = some c' → n ≠ n' → (η n).own = some b → (η n').own ≠ some b
  old : ∀ b, b < B.w0.heap.size → b ∉ B.mods → w.heap[b]? = B.w0.heap[b]?
  size : B.w0.heap.size ≤ w.heap.size
  os : w.os = B.w0.os
  tape : w.tape = B.w0.tape
  output : w.output = B.w0.output
  mle : ∀ b o, B.m0 b = some o → m b = some o
  mnew : ∀ b o, m b = some o → B.m0 b = some o ∨ B.w0.heap.size ≤ b ∨ b ∈ B.mods
  par : B.k0 ≤ nx ∧ ∀ n, n < B.k0 → η n = B.η0 n

/-- What the looks at memory rest on. -/
structure HQ (η : Names) (m : Mem) (h : Heap) (w : World) : Prop where
  imm : ∀ b o, m b = some o → w.heap[b]? = some o
  ck : ∀ n c, lookH h n = some c → True ∧ CkAt η w n c
theorem Hold.hq {B : Base} {η : Names} {m : Mem} {h : Heap} {nx : Nat} {w : World} (hH : Hold B η m h nx w) : HQ η m h w := ⟨hH.imm, fun n c hl => ⟨trivial, (hH.ck n c hl).2⟩⟩

structure HoldT (ops : List Oper) (η : Names) (st : St) (a : Act) : Prop where
  sz : a.tmps.size = st.sz
  df : a.defers = []
  sl : ∀ k tag x, look st.t k = some (tag, x) → a.tmps[k]? = some (if tagB st.gs tag then den η x else undef)
  gs : ∀ j g tg, lookG st.gs j = some (g, tg) → ∃ d, dstOf ops j = some d ∧ look st.t d = some (tg, .b g)

/-! ### tags -/
theorem beq_eq {a b : Nat} (h : Nat.beq a b = true) : a = b := Nat.eq_of_beq_eq_true h
theorem memT_sound {gs : Gs} {j : Nat} {w : Bool} : ∀ {tag : Tag}, memT j w tag = true → tagB gs tag = true → (match lookG gs j with | some (g, _) => g == w | none => false) = true
  | [], h, _ => by cases h
  | (i, u) :: r, h, ht => by
    simp only [tagB, Bool.and_eq_true] at ht
    simp only [memT] at h
    split at h
    · rename_i hb
      obtain rfl := beq_eq hb
      cases u <;> cases w <;> simp only at h
      · exact ht.1
      · exact memT_sound h ht.2
      · exact memT_sound h ht.2
      · exact ht.1
    · exact memT_sound h ht.2
theorem subT_sound {gs : Gs} {tag : Tag} : ∀ {tg : Tag}, subT tg tag = true → tagB gs tag = true → tagB gs tg = true
  | [], _, _ => rfl
  | (j, w) :: r, h, ht => by
    simp only [subT] at h
    split at h
    · rename_i hm
      simp only [tagB, Bool.and_eq_true]
      exact ⟨memT_sound hm ht, subT_sound h ht⟩
    · cases h
theorem gc_out {gs : Gs} {tag : Tag} {c : Prop} (h : gc gs tag c) (ht : tagB gs tag = true) : c := by
  cases tag with
  | nil => exact h
  | cons => exact h ht

/-! ### values without names -/
mutual
theorem den_cl (η η' : Names) : ∀ x : SV, cl x = true → den η x = den η' x
  | .b _, _ | .i _ _, _ | .s _, _ | .el _ _, _ | .np, _ | .sl _ _ _, _ | .gi _ _ _, _ | .ne, _ | .v _, _ => rfl
  | .p _ _, h | .pj _ _ _, h | .rw _ _, h => by cases h
  | .g cs, h => by simp only [den, dens_cl η η' cs h]
  | .t cs, h => by simp only [den, dent_cl η η' cs h]
  | .e _ x, h => by simp only [den, den_cl η η' x h]
  | .fn _ a c, h => by
    simp only [cl, Bool.and_eq_true] at h
    simp only [den, dent_cl η η' a h.1, dent_cl η η' c h.2]
theorem dens_cl (η η' : Names) : ∀ l : List SV, cls l = true → dens η l = dens η' l
  | [], _ => rfl
  | x :: r, h => by
    simp only [cls, Bool.and_eq_true] at h
    have h1 := den_cl η η' x h.1
    have h2 := dens_cl η η' r h.2
    simp only [dens, h1, h2]
theorem dent_cl (η η' : Names) : ∀ l : List SV, cls l = true → dent η l = dent η' l
  | [], _ => rfl
  | x :: r, h => by
    simp only [cls, Bool.and_eq_true] at h
    simp only [dent, den_cl η η' x h.1, dent_cl η η' r h.2]
end
end Go.Proofs.YtaeoibnbbpgajaaDoor.Sx
