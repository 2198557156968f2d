/- Symbolic execution, twenty-first text: one state laid over another (loops and calls rest on it). -/
import Derived.Test.YtaeoibnbbpgajaaDoorSxT
namespace Go.Proofs.YtaeoibnbbpgajaaDoor.Sx

/-- Where a name of the pattern lies: at a name of the state, or at a slice without capacity. -/
inductive Src where
  | nm (n : Nat)
  | nil (A : Option Addr)
abbrev Ren := List (Nat × Src)
def find : Ren → Nat → Option Src
  | [], _ => none
  | (n, s) :: r, k => match Nat.beq n k with
    | true => some s
    | false => find r k
def tie (σ : Ren) (n b : Nat) (K : Ren → Prop) : Prop := match find σ n with
  | some (.nm c) => match Nat.beq c b with
    | true => K σ
    | false => False
  | some (.nil _) => False
  | none => K ((n, .nm b) :: σ)
def tieNil (σ : Ren) (n : Nat) (A : Option Addr) (K : Ren → Prop) : Prop := match find σ n with
  | none => K ((n, .nil A) :: σ)
  | _ => False

mutual
/-- The pattern, the value. -/
def mt : SV → SV → Ren → (Ren → Prop) → Prop
  | .b x, .b y, σ, K => (y = x) ∧ K σ
  | .i k x, .i k' y, σ, K => match sameKind k k' with
    | true => (y = x) ∧ K σ
    | false => False
  | .s x, .s y, σ, K => (y = x) ∧ K σ
  | .p n o, .p n' o', σ, K => (o' = o) ∧ tie σ n n' K
  | .pj n o j, .pj n' o' j', σ, K => (o' = o ∧ j' = j) ∧ tie σ n n' K
  | .el A o, .el A' o', σ, K => (A' = A ∧ o' = o) ∧ K σ
  | .np, .np, σ, K => K σ
  | .rw n l, .rw n' l', σ, K => (l' = l) ∧ tie σ n n' K
  | .rw n l, .sl A l' c', σ, K => (l = 0 ∧ l' = 0 ∧ c' = 0) ∧ tieNil σ n A K
  | .sl A l c, .sl A' l' c', σ, K => (A' = A ∧ l' = l ∧ c' = c) ∧ K σ
  | .g cs, .g cs', σ, K => mts cs cs' σ K
  | .gi n k f, .gi n' k' f', σ, K => match sameKind k k' with
    | true => (n' = n ∧ ∀ j, j < n → f' j = f j) ∧ K σ
    | false => False
  | .t cs, .t cs', σ, K => mtt cs cs' σ K
  | .e ty x, .e ty' x', σ, K => match Nat.beq ty ty' with
    | true => mt x x' σ K
    | false => False
  | .ne, .ne, σ, K => K σ
  | .fn f a c, .fn f' a' c', σ, K => match Nat.beq f f' with
    | true => mtt a a' σ fun σ => mtt c c' σ K
    | false => False
  | .v x, .v y, σ, K => (y = x) ∧ K σ
  | _, _, _, _ => False
def mts : List SV → List SV → Ren → (Ren → Prop) → Prop
  | [], [], σ, K => K σ
  | x :: r, y :: r', σ, K => mt x y σ fun σ => mts r r' σ K
  | _, _, _, _ => False
def mtt : List SV → List SV → Ren → (Ren → Prop) → Prop
  | [], [], σ, K => K σ
  | x :: r, y :: r', σ, K => mt x y σ fun σ => mtt r r' σ K
  | _, _, _, _ => False
end
def mtC : Ck → Ck → Ren → (Ren → Prop) → Prop
  | .st e cs, .st e' cs', σ, K => match Nat.beq e e' with
    | true => mts cs cs' σ K
    | false => False
  | .row e z n xs, .row e' z' n' xs', σ, K => match Nat.beq e e' && Nat.beq z z' with
    | true => (n' = n ∧ xs' = xs) ∧ K σ
    | false => False
  | _, _, _, _ => False

def mtT : List Slot → List Slot → Ren → (Ren → Prop) → Prop
  | [], _, σ, K => K σ
  | ⟨k, tag, x⟩ :: r, t, σ, K => match tag, look t k with
    | [], some ([], y) => mt x y σ fun σ => mtT r t σ K
    | _, _ => False
def memH : Heap → Nat → Bool
  | [], _ => false
  | (n, _) :: r, k => match Nat.beq n k with
    | true => true
    | false => memH r k
/-- The blocks of a pattern, each behind a name that is tied by then. -/
def mtH (nx : Nat) : List Nat → Heap → Heap → Ren → (Ren → Prop) → Prop
  | _, [], _, σ, K => K σ
  | used, (n, c) :: r, h, σ, K => match Nat.blt n nx, find σ n with
    | true, some (.nm b) => match lookH h b with
      | some c' => match memN b used with
        | false => mtC c c' σ fun σ => mtH nx (b :: used) r h σ K
        | true => False
      | none => False
    | true, some (.nil _) => match c with
      | .row _ _ k xs => (k = 0 ∧ xs = []) ∧ mtH nx used r h σ K
      | _ => False
    | _, _ => False

def ηOf (σ : Ren) (η : Names) : Names := fun n => match find σ n with
  | some (.nm b) => η b
  | some (.nil A) => ⟨A, 0, none⟩
  | none => η n
def Ext (σ σ' : Ren) : Prop := ∀ n s, find σ n = some s → find σ' n = some s
theorem Ext.refl (σ : Ren) : Ext σ σ := fun _ _ h => h
theorem Ext.trans {a b c : Ren} (h : Ext a b) (h' : Ext b c) : Ext a c := fun n s hs => h' n s (h n s hs)
theorem ext_cons {σ : Ren} {n : Nat} {s : Src} (h : find σ n = none) : Ext σ ((n, s) :: σ) := by
  intro k s' hk
  simp only [find]
  have : n ≠ k := fun e => by subst e; rw [h] at hk; cases hk
  rw [beq_ne this]
  exact hk

theorem tie_sound {σ : Ren} {n b : Nat} {K : Ren → Prop} (h : tie σ n b K) : ∃ σ', K σ' ∧ Ext σ σ' ∧ find σ' n = some (.nm b) := by
  unfold tie at h
  split at h
  · rename_i c hc
    split at h
    · rename_i hb
      obtain rfl := beq_eq hb
      exact ⟨σ, h, .refl σ, hc⟩
    · exact h.elim
  · exact h.elim
  · rename_i hn
    exact ⟨_, h, ext_cons hn, by simp [find, Nat.beq_refl]⟩
theorem tieNil_sound {σ : Ren} {n : Nat} {A : Option Addr} {K : Ren → Prop} (h : tieNil σ n A K) : ∃ σ', K σ' ∧ Ext σ σ' ∧ find σ' n = some (.nil A) := by
  unfold tieNil at h
  split at h
  · rename_i hn
    exact ⟨_, h, ext_cons hn, by simp [find, Nat.beq_refl]⟩
  · exact h.elim
theorem ηOf_nm {σ : Ren} {n b : Nat} (h : find σ n = some (.nm b)) (η : Names) : ηOf σ η n = η b := by simp [ηOf, h]
theorem ηOf_nil {σ : Ren} {n : Nat} {A : Option Addr} (h : find σ n = some (.nil A)) (η : Names) : ηOf σ η n = ⟨A, 0, none⟩ := by simp [ηOf, h]

/-- What a match gives. -/
def MtOk (x y : SV) (σ : Ren) (K : Ren → Prop) : Prop := ∃ σ', K σ' ∧ Ext σ σ' ∧ ∀ σ'', Ext σ' σ'' → ∀ η, den (ηOf σ'' η) x = den η y ∧ pc x (den (ηOf σ'' η) x) = pc y (den η y)
theorem MtOk.of {x y : SV} {σ : Ren} {K : Ren → Prop} (h : K σ) (hd : ∀ η η', den η' x = den η y ∧ pc x (den η' x) = pc y (den η y)) : MtOk x y σ K :=
  ⟨σ, h, .refl σ, fun _ _ η => hd η _⟩

mutual
theorem mt_sound {K : Ren → Prop} : ∀ {x y : SV} {σ : Ren}, mt x y σ K → MtOk x y σ K
  | .b x, y, σ, h => by
    cases y <;> simp only [mt] at h
    obtain ⟨rfl, h⟩ := h
    exact .of h fun _ _ => ⟨rfl, rfl⟩
  | .i k x, y, σ, h => by
    cases y <;> simp only [mt] at h
    split at h
    · rename_i hk
      obtain rfl := sameKind_eq hk
      obtain ⟨rfl, h⟩ := h
      exact .of h fun _ _ => ⟨rfl, rfl⟩
    · exact h.elim
  | .s x, y, σ, h => by
    cases y <;> simp only [mt] at h
    obtain ⟨rfl, h⟩ := h
    exact .of h fun _ _ => ⟨rfl, rfl⟩
  | .p n o, y, σ, h => by
    cases y <;> simp only [mt] at h
    obtain ⟨rfl, h⟩ := h
    obtain ⟨σ', h, he, hf⟩ := tie_sound h
    exact ⟨σ', h, he, fun σ'' h2 η => by simp [den, pc, ηOf_nm (h2 _ _ hf)]⟩
  | .pj n o j, y, σ, h => by
    cases y <;> simp only [mt] at h
    obtain ⟨⟨rfl, rfl⟩, h⟩ := h
    obtain ⟨σ', h, he, hf⟩ := tie_sound h
    exact ⟨σ', h, he, fun σ'' h2 η => by simp [den, pc, ηOf_nm (h2 _ _ hf)]⟩
  | .el A o, y, σ, h => by
    cases y <;> simp only [mt] at h
    obtain ⟨⟨rfl, rfl⟩, h⟩ := h
    exact .of h fun _ _ => ⟨rfl, rfl⟩
  | .np, y, σ, h => by
    cases y <;> simp only [mt] at h
    exact .of h fun _ _ => ⟨rfl, rfl⟩
  | .rw n l, y, σ, h => by
    cases y <;> simp only [mt] at h
    · obtain ⟨rfl, h⟩ := h
      obtain ⟨σ', h, he, hf⟩ := tie_sound h
      exact ⟨σ', h, he, fun σ'' h2 η => by simp [den, pc, ηOf_nm (h2 _ _ hf)]⟩
    · obtain ⟨⟨rfl, rfl, rfl⟩, h⟩ := h
      obtain ⟨σ', h, he, hf⟩ := tieNil_sound h
      exact ⟨σ', h, he, fun σ'' h2 η => by simp [den, pc, ηOf_nil (h2 _ _ hf)]⟩
  | .sl A l c, y, σ, h => by
    cases y <;> simp only [mt] at h
    obtain ⟨⟨rfl, rfl, rfl⟩, h⟩ := h
    exact .of h fun _ _ => ⟨rfl, rfl⟩
  | .g cs, y, σ, h => by
    cases y <;> simp only [mt] at h
    obtain ⟨σ', h, he, hd⟩ := mts_sound h
    exact ⟨σ', h, he, fun σ'' h2 η => by simp [den, pc, hd σ'' h2 η]⟩
  | .gi n k f, y, σ, h => by
    cases y <;> simp only [mt] at h
    rename_i n' k' f'
    split at h
    · rename_i hk
      obtain rfl := sameKind_eq hk
      obtain ⟨⟨rfl, hf⟩, h⟩ := h
      refine .of h fun _ _ => ?_
      have : ints n' k f = ints n' k f' := List.map_congr_left (fun j hj => by rw [hf j (List.mem_range.1 hj)])
      exact ⟨by simp only [den, this], by simp only [pc, this]⟩
    · exact h.elim
  | .t cs, y, σ, h => by
    cases y <;> simp only [mt] at h
    obtain ⟨σ', h, he, hd⟩ := mtt_sound h
    exact ⟨σ', h, he, fun σ'' h2 η => by simp [den, pc, hd σ'' h2 η]⟩
  | .e ty x, y, σ, h => by
    cases y <;> simp only [mt] at h
    split at h
    · rename_i hb
      obtain rfl := beq_eq hb
      obtain ⟨σ', h, he, hd⟩ := mt_sound h
      exact ⟨σ', h, he, fun σ'' h2 η => by simp [den, pc, (hd σ'' h2 η).1]⟩
    · exact h.elim
  | .ne, y, σ, h => by
    cases y <;> simp only [mt] at h
    exact .of h fun _ _ => ⟨rfl, rfl⟩
  | .fn f a c, y, σ, h => by
    cases y <;> simp only [mt] at h
    split at h
    · rename_i hb
      obtain rfl := beq_eq hb
      obtain ⟨σ', h, he, hd⟩ := mtt_sound h
      obtain ⟨σ2, h, he2, hd2⟩ := mtt_sound h
      exact ⟨σ2, h, he.trans he2, fun σ'' h2 η => by simp [den, pc, hd σ'' (he2.trans h2) η, hd2 σ'' h2 η]⟩
    · exact h.elim
  | .v x, y, σ, h => by
    cases y <;> simp only [mt] at h
    obtain ⟨rfl, h⟩ := h
    exact .of h fun _ _ => ⟨rfl, rfl⟩
theorem mts_sound {K : Ren → Prop} : ∀ {x y : List SV} {σ : Ren}, mts x y σ K → ∃ σ', K σ' ∧ Ext σ σ' ∧ ∀ σ'', Ext σ' σ'' → ∀ η, dens (ηOf σ'' η) x = dens η y
  | [], [], σ, h => ⟨σ, h, .refl σ, fun _ _ _ => rfl⟩
  | [], _ :: _, _, h => h.elim
  | _ :: _, [], _, h => h.elim
  | x :: r, y :: r', σ, h => by
    simp only [mts] at h
    obtain ⟨σ1, h, he1, hd1⟩ := mt_sound h
    obtain ⟨σ2, h, he2, hd2⟩ := mts_sound h
    exact ⟨σ2, h, he1.trans he2, fun σ'' h2 η => by rw [dens, dens, (hd1 σ'' (he2.trans h2) η).2, hd2 σ'' h2 η]⟩
theorem mtt_sound {K : Ren → Prop} : ∀ {x y : List SV} {σ : Ren}, mtt x y σ K → ∃ σ', K σ' ∧ Ext σ σ' ∧ ∀ σ'', Ext σ' σ'' → ∀ η, dent (ηOf σ'' η) x = dent η y
  | [], [], σ, h => ⟨σ, h, .refl σ, fun _ _ _ => rfl⟩
  | [], _ :: _, _, h => h.elim
  | _ :: _, [], _, h => h.elim
  | x :: r, y :: r', σ, h => by
    simp only [mtt] at h
    obtain ⟨σ1, h, he1, hd1⟩ := mt_sound h
    obtain ⟨σ2, h, he2, hd2⟩ := mtt_sound h
    exact ⟨σ2, h, he1.trans he2, fun σ'' h2 η => by rw [dent, dent, (hd1 σ'' (he2.trans h2) η).1, hd2 σ'' h2 η]⟩
end
end Go.Proofs.YtaeoibnbbpgajaaDoor.Sx
