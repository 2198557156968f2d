/- Symbolic execution, twenty-fourth text: calls of functions of which it is stated what they do. -/
import Derived.Test.YtaeoibnbbpgajaaDoorSxW
namespace Go.Proofs.YtaeoibnbbpgajaaDoor.Sx

def rn (σ : Ren) (bs n : Nat) : Nat := match find σ n with
  | some (.nm b) => b
  | _ => bs + n
mutual
def rnV (σ : Ren) (bs : Nat) : SV → (SV → Prop) → Prop
  | .p n o, K => K (.p (rn σ bs n) o)
  | .pj n o j, K => K (.pj (rn σ bs n) o j)
  | .rw n l, K => K (.rw (rn σ bs n) l)
  | .g cs, K => rnVs σ bs cs fun cs => K (.g cs)
  | .t cs, K => rnVs σ bs cs fun cs => K (.t cs)
  | .e ty x, K => rnV σ bs x fun x => K (.e ty x)
  | .fn f a c, K => rnVs σ bs a fun a => rnVs σ bs c fun c => K (.fn f a c)
  | .b x, K => K (.b x)
  | .i k n, K => K (.i k n)
  | .s x, K => K (.s x)
  | .el A o, K => K (.el A o)
  | .np, K => K .np
  | .sl A l c, K => K (.sl A l c)
  | .gi n k f, K => K (.gi n k f)
  | .ne, K => K .ne
  | .v x, K => K (.v x)
def rnVs (σ : Ren) (bs : Nat) : List SV → (List SV → Prop) → Prop
  | [], K => K []
  | x :: r, K => rnV σ bs x fun x => rnVs σ bs r fun r => K (x :: r)
end
def rnC (σ : Ren) (bs : Nat) : Ck → (Ck → Prop) → Prop
  | .st e cs, K => rnVs σ bs cs fun cs => K (.st e cs)
  | .row e z n xs, K => K (.row e z n xs)
def rnH (σ : Ren) (bs : Nat) : Heap → Heap → (Heap → Prop) → Prop
  | [], h0, K => K h0
  | (n, c) :: r, h0, K => rnC σ bs c fun c => rnH σ bs r h0 fun h => K ((rn σ bs n, c) :: h)
def delT : Heap → Ren → Heap → (Heap → Prop) → Prop
  | [], _, h, K => K h
  | (n, _) :: r, σ, h, K => match find σ n with
    | some (.nm b) => delHK h b fun h => delT r σ h K
    | _ => delT r σ h K
def okR (nx bs : Nat) : Ren → Bool
  | [] => true
  | (n, .nm b) :: r => Nat.blt n nx && Nat.blt b bs && okR nx bs r
  | (_, .nil _) :: r => okR nx bs r
def findS : List (Nat × Spec) → Nat → Option Spec
  | [], _ => none
  | (f, s) :: r, k => match Nat.beq f k with
    | true => some s
    | false => findS r k
def withN (st : St) (h : Heap) (nx : Nat) (K : St → Prop) : Prop := match st with
  | ⟨sz, t, gs, _, _⟩ => K ⟨sz, t, gs, h, nx⟩

/-- What a caller goes on with behind a call. -/
def callK (s : Spec) (a : s.A) (σ : Ren) (st : St) (h0 : Heap) (m : Mem) (K : Out → St → Mem → Prop) (b : s.Bb) : Prop := match st with
  | ⟨sz, t, gs, _, nx⟩ => match s.out a b with
    | .ret x => rnV σ nx x fun x => rnH σ nx (s.h2 a b) h0 fun h => forceN (nx + s.nx2) fun nx' => K (.ret x) ⟨sz, t, gs, h, nx'⟩ m
    | .pan x => rnV σ nx x fun x => rnH σ nx (s.h2 a b) h0 fun h => forceN (nx + s.nx2) fun nx' => K (.pan x) ⟨sz, t, gs, h, nx'⟩ m
def callS (s : Spec) (xs : List SV) (st : St) (m : Mem) (K : Out → St → Mem → Prop) : Prop := match st with
  | ⟨sz, t, gs, hp, nx⟩ => ∃ a, s.R a ∧ mtt (s.args a) xs [] fun σ => mtH s.nx [] (s.h a) hp σ fun σ => match okR s.nx nx σ && okSt ⟨sz, t, gs, hp, nx⟩ with
    | true => (∀ x o, s.J a x = some o → m x = some o) ∧ delT (s.h a) σ hp fun h0 => ∀ b, s.C a b → (match s.ext with
      | false => callK s a σ ⟨sz, t, gs, hp, nx⟩ h0 m K b
      | true => ∀ m2 : Mem, (∀ x o, m x = some o → m2 x = some o) → (∀ x o, s.J2 a b x = some o → m2 x = some o) → callK s a σ ⟨sz, t, gs, hp, nx⟩ h0 m2 K b)
    | false => False
/-- A call that is lent what it is handed. -/
def callR (s : Spec) (xs : List SV) (st : St) (m : Mem) (K : Out → St → Mem → Prop) : Prop := match st with
  | ⟨sz, t, gs, hp, nx⟩ => sealXs 9 ⟨sz, t, gs, hp, nx⟩ m xs fun xs _ m' => match s.ext with
    | true => False
    | false => ∃ a, s.R a ∧ mtt (s.args a) xs [] fun σ => match s.h a, okR s.nx nx σ && okSt ⟨sz, t, gs, hp, nx⟩ with
      | [], true => (∀ x o, s.J a x = some o → m' x = some o) ∧ ∀ b, s.C a b → callK s a σ ⟨sz, t, gs, hp, nx⟩ hp m K b
      | _, _ => False
mutual
/-- The blocks that a value points to, in order. -/
def ptrs : SV → List Nat
  | .p n _ => [n]
  | .fn _ a c => ptrss a ++ ptrss c
  | _ => []
def ptrss : List SV → List Nat
  | [] => []
  | x :: r => ptrs x ++ ptrss r
end
def nthN : List Nat → Nat → Option Nat
  | [], _ => none
  | x :: _, 0 => some x
  | _ :: r, k + 1 => nthN r k
/-- Rows that lie at these places of the blocks that are pointed to stay from now on. -/
def sealD : List (Nat × Nat) → List SV → St → Mem → (List SV → St → Mem → Prop) → Prop
  | [], xs, st, m, K => K xs st m
  | (k, o) :: l, xs, st, m, K => match nthN (ptrss xs) k with
    | some b => match lookH st.h b with
      | some (.st _ cs) => partAt cs o fun x => match x with
        | .rw r _ => sealE st m r fun A cap st m => sbVs r A cap xs fun xs => sealD l xs st m K
        | _ => sealD l xs st m K
      | _ => sealD l xs st m K
    | none => sealD l xs st m K
/-- A call, by what is stated of the function. -/
def CPs (S : List (Nat × Spec)) : CallP := fun f xs st m K => match findS S f with
  | none => False
  | some s => sealD s.sd xs st m fun xs st m => match s.md with
    | 0 => callS s xs st m K
    | 1 => callR s xs st m K
    | _ => sealXs 9 st m xs fun xs st m => callS s xs st m K

def RnOk (σ : Ren) (bs : Nat) (η' η2 : Names) : Prop := ∀ n, η' (rn σ bs n) = η2 n

mutual
theorem rnV_sound {σ : Ren} {bs : Nat} {K : SV → Prop} : ∀ {x : SV}, rnV σ bs x K → ∃ x', K x' ∧ ∀ η' η2, RnOk σ bs η' η2 → den η' x' = den η2 x ∧ pc x' (den η' x') = pc x (den η2 x)
  | .p n o, h => ⟨_, h, fun η' η2 hr => by simp [den, pc, hr n]⟩
  | .pj n o j, h => ⟨_, h, fun η' η2 hr => by simp [den, pc, hr n]⟩
  | .rw n l, h => ⟨_, h, fun η' η2 hr => by simp [den, pc, hr n]⟩
  | .g cs, h => by
    simp only [rnV] at h
    obtain ⟨cs', h, hd⟩ := rnVs_sound h
    exact ⟨_, h, fun η' η2 hr => by simp [den, pc, (hd η' η2 hr).1]⟩
  | .t cs, h => by
    simp only [rnV] at h
    obtain ⟨cs', h, hd⟩ := rnVs_sound h
    exact ⟨_, h, fun η' η2 hr => by simp [den, pc, (hd η' η2 hr).2]⟩
  | .e ty x, h => by
    simp only [rnV] at h
    obtain ⟨cs', h, hd⟩ := rnV_sound h
    exact ⟨_, h, fun η' η2 hr => by simp [den, pc, (hd η' η2 hr).1]⟩
  | .fn f a c, h => by
    simp only [rnV] at h
    obtain ⟨a', h, hd⟩ := rnVs_sound h
    obtain ⟨c', h, hd2⟩ := rnVs_sound h
    exact ⟨_, h, fun η' η2 hr => by simp [den, pc, (hd η' η2 hr).2, (hd2 η' η2 hr).2]⟩
  | .b x, h => ⟨_, h, fun _ _ _ => ⟨rfl, rfl⟩⟩
  | .i k n, h => ⟨_, h, fun _ _ _ => ⟨rfl, rfl⟩⟩
  | .s x, h => ⟨_, h, fun _ _ _ => ⟨rfl, rfl⟩⟩
  | .el A o, h => ⟨_, h, fun _ _ _ => ⟨rfl, rfl⟩⟩
  | .np, h => ⟨_, h, fun _ _ _ => ⟨rfl, rfl⟩⟩
  | .sl A l c, h => ⟨_, h, fun _ _ _ => ⟨rfl, rfl⟩⟩
  | .gi n k f, h => ⟨_, h, fun _ _ _ => ⟨rfl, rfl⟩⟩
  | .ne, h => ⟨_, h, fun _ _ _ => ⟨rfl, rfl⟩⟩
  | .v x, h => ⟨_, h, fun _ _ _ => ⟨rfl, rfl⟩⟩
theorem rnVs_sound {σ : Ren} {bs : Nat} {K : List SV → Prop} : ∀ {x : List SV}, rnVs σ bs x K → ∃ x', K x' ∧ ∀ η' η2, RnOk σ bs η' η2 → dens η' x' = dens η2 x ∧ dent η' x' = dent η2 x
  | [], h => ⟨[], h, fun _ _ _ => ⟨rfl, rfl⟩⟩
  | x :: r, h => by
    simp only [rnVs] at h
    obtain ⟨x', h, hd⟩ := rnV_sound h
    obtain ⟨r', h, hd2⟩ := rnVs_sound h
    exact ⟨_, h, fun η' η2 hr => ⟨by rw [dens, dens, (hd η' η2 hr).2, (hd2 η' η2 hr).1], by rw [dent, dent, (hd η' η2 hr).1, (hd2 η' η2 hr).2]⟩⟩
end
theorem rnC_sound {σ : Ren} {bs : Nat} {K : Ck → Prop} {c : Ck} (h : rnC σ bs c K) : ∃ c', K c' ∧ ∀ η' η2 w n, RnOk σ bs η' η2 → CkAt η2 w n c → CkAt η' w (rn σ bs n) c' := by
  cases c with
  | st e cs =>
    obtain ⟨cs', h, hd⟩ := rnVs_sound h
    refine ⟨_, h, fun η' η2 w n hr hc => ?_⟩
    simp only [CkAt] at hc ⊢
    rw [hr n, (hd η' η2 hr).1]
    exact hc
  | row e z k xs =>
    refine ⟨_, h, fun η' η2 w n hr hc => ?_⟩
    simp only [CkAt] at hc ⊢
    rw [hr n]
    exact hc
theorem rnH_sound {σ : Ren} {bs : Nat} {h0 : Heap} {K : Heap → Prop} : ∀ {h2 : Heap}, rnH σ bs h2 h0 K → ∃ h', K h' ∧ ∀ k c, lookH h' k = some c →
    (∃ n c0, lookH h2 n = some c0 ∧ k = rn σ bs n ∧ ∀ η' η2 w, RnOk σ bs η' η2 → CkAt η2 w n c0 → CkAt η' w (rn σ bs n) c) ∨ lookH h0 k = some c
  | [], h => ⟨h0, h, fun _ _ h => .inr h⟩
  | (n, c) :: r, h => by
    simp only [rnH] at h
    obtain ⟨c', h, hc⟩ := rnC_sound h
    obtain ⟨h', h, hh⟩ := rnH_sound h
    refine ⟨_, h, fun k d hl => ?_⟩
    simp only [lookH] at hl
    split at hl
    · rename_i hb
      cases hl
      exact .inl ⟨n, c, by simp [lookH, Nat.beq_refl], (beq_eq hb).symm, fun η' η2 w => hc η' η2 w n⟩
    · rename_i hb
      rcases hh k d hl with ⟨n', c0, hl', hk, hx⟩ | h
      · refine .inl ⟨n', c0, ?_, hk, hx⟩
        have : n ≠ n' := fun e => by subst e; subst hk; rw [Nat.beq_refl] at hb; cases hb
        simp only [lookH, beq_ne this]
        exact hl'
      · exact .inr h
theorem delT_sound {σ : Ren} {K : Heap → Prop} : ∀ {h2 h : Heap}, delT h2 σ h K → ∃ h', K h' ∧ (∀ k c, lookH h' k = some c → lookH h k = some c ∧ ∀ n d, lookH h2 n = some d → find σ n ≠ some (.nm k)) ∧ ∀ nx, okH nx h = true → okH nx h' = true
  | [], h, hs => ⟨h, hs, fun k c hl => ⟨hl, fun _ _ h => (by cases h)⟩, fun _ h => h⟩
  | (n, c) :: r, h, hs => by
    have cases' : ∀ n' c'', lookH ((n, c) :: r) n' = some c'' → n' = n ∨ lookH r n' = some c'' := by
      intro n' c'' hl'
      simp only [lookH] at hl'
      split at hl'
      · rename_i hb
        exact .inl (beq_eq hb).symm
      · exact .inr hl'
    simp only [delT] at hs
    split at hs
    · rename_i b hf
      obtain ⟨h1, hs, hd, hok⟩ := delHK_sound hs
      obtain ⟨h', hk, hd2, hok2⟩ := delT_sound hs
      refine ⟨h', hk, fun k c hl => ?_, fun nx ho => hok2 nx (hok nx ho)⟩
      obtain ⟨e1, e2⟩ := hd2 k c hl
      obtain ⟨e3, e4⟩ := hd k c e1
      refine ⟨e3, fun n' d hl' => ?_⟩
      rcases cases' n' d hl' with rfl | hl'
      · rw [hf]
        intro e
        cases e
        exact e4 rfl
      · exact e2 n' d hl'
    · rename_i hf
      obtain ⟨h', hk, hd2, hok2⟩ := delT_sound hs
      refine ⟨h', hk, fun k c hl => ?_, hok2⟩
      obtain ⟨e1, e2⟩ := hd2 k c hl
      refine ⟨e1, fun n' d hl' => ?_⟩
      rcases cases' n' d hl' with rfl | hl'
      · exact fun e => hf k e
      · exact e2 n' d hl'
theorem okR_sound {nx bs : Nat} : ∀ {σ : Ren}, okR nx bs σ = true → ∀ n b, find σ n = some (.nm b) → n < nx ∧ b < bs
  | [], _, _, _, h => by cases h
  | (k, .nm c) :: r, ho, n, b, h => by
    simp only [okR, Bool.and_eq_true] at ho
    simp only [find] at h
    split at h
    · rename_i hb
      obtain rfl := beq_eq hb
      cases h
      exact ⟨blt_lt ho.1.1, blt_lt ho.1.2⟩
    · exact okR_sound ho.2 n b h
  | (k, .nil A) :: r, ho, n, b, h => by
    simp only [okR] at ho
    simp only [find] at h
    split at h
    · cases h
    · exact okR_sound ho n b h
end Go.Proofs.YtaeoibnbbpgajaaDoor.Sx
